/-
  A part of the proof.
-/
import Derived.Test.YtkknkhniadiapaaDoorVmAG
import Derived.Laws.Build
namespace Go.VM
section
variable {P : Program} {T : TT} {A : Nat → Prop} {g : Gh} {st : St} {w : World}
theorem foldl_set (off : Nat) : ∀ (new : List Value) (k : Nat) (cells : Array Value), off + k + new.length ≤ cells.size →
    ((new.zipIdx k).foldl (fun cs (x : Value × Nat) => cs.setIfInBounds (off + x.2) x.1) cells).toList = cells.toList.take (off + k) ++ new ++ cells.toList.drop (off + k + new.length)
  | [], k, cells, _ => by simp
  | v :: new, k, cells, h => by
    simp only [List.length_cons] at h
    rw [List.zipIdx_cons, List.foldl_cons, foldl_set off new (k + 1) _ (by simp; omega)]
    have e := list_seg_step cells.toList (off + k) v new (by simp; omega)
    simpa [Array.toList_setIfInBounds, Nat.add_assoc, Nat.add_comm 1] using e
theorem fill_step {v : Value} {off : Nat} {cells : Array Value} (h : off + v.cells.size ≤ cells.size) :
    (v.cells.zipIdx.foldl (fun cs (x : Value × Nat) => cs.setIfInBounds (off + x.2) x.1) cells).toList = cells.toList.take off ++ v.cells.toList ++ cells.toList.drop (off + v.cells.size) := by
  rw [← Array.foldl_toList]
  have := foldl_set off v.cells.toList 0 cells (by simpa using h)
  simpa [Array.toList_zipIdx] using this
inductive RParts (g : Gh) : List (Nat × AV) → List (Nat × Value) → Prop
  | nil : RParts g [] []
  | cons {i : Nat} {v : AV} {x : Value} {l : List (Nat × AV)} {m : List (Nat × Value)} (h : R g v x) (t : RParts g l m) : RParts g ((i, v) :: l) ((i, x) :: m)
theorem cells_len {v : AV} {x : Value} (h : R g v x) : x.cells.size = v.cells.length ∧ (RL g v.cells x.cells.toList) := by
  cases v with
  | agg cs =>
    simp only [R] at h
    obtain ⟨ys, rfl, h2⟩ := h
    exact ⟨by simpa [AV.cells, Value.cells] using RL_len h2, h2⟩
  | opq i =>
    have hx : x.cells = #[x] := by
      simp only [R] at h
      rcases h with ⟨_, rfl | ⟨_, _, rfl⟩⟩ | ⟨_, ⟨_, rfl⟩ | ⟨_, _, _, rfl⟩⟩ <;> rfl
    rw [hx]
    exact ⟨rfl, RL_cons h RL_nil⟩
  | _ =>
    have hx : x.cells = #[x] := by
      simp only [R] at h
      first
        | (obtain ⟨_, _, _, _, _, rfl, _⟩ := h; rfl)
        | (obtain ⟨_, _, _, _, _, rfl⟩ := h; rfl)
        | (subst h; rfl)
        | (obtain ⟨_, _, _, rfl, _⟩ := h; rfl)
        | (obtain ⟨_, _, rfl⟩ := h; rfl)
        | (obtain ⟨_, _, _, _, rfl, _⟩ := h; rfl)
        | (obtain ⟨_, _, rfl, _⟩ := h; rfl)
        | (obtain ⟨_, rfl, _⟩ := h; rfl)
        | (obtain ⟨_, _, _, rfl, _⟩ := h; rfl)
    rw [hx]
    exact ⟨rfl, RL_cons h RL_nil⟩
theorem fillAt_sound {place place' : Nat → Option (Nat × Nat)} (hpl : ∀ k p, place k = some p → place' k = some p) : ∀ {parts : List (Nat × AV)} {parts' : List (Nat × Value)} {cells cs : List AV} {xs : Array Value},
    RParts g parts parts' → RL g cells xs.toList → fillAt place cells parts = .ok cs → ∃ ys, Instr.fill place' xs parts' = some ys ∧ RL g cs ys.toList
  | _, _, _, _, _, .nil, hr, h => by
    simp only [fillAt, Except.ok.injEq] at h
    subst h
    exact ⟨_, rfl, hr⟩
  | _, _, cells, cs, xs, .cons (i := i) (v := v) (x := x) hv ht, hr, h => by
    simp only [fillAt] at h
    split at h
    · cases h
    · rename_i off size hp
      split at h
      · rename_i hc
        simp only [Bool.and_eq_true] at hc
        have h1 := Nat.eq_of_beq_eq_true hc.1
        have h2 := Nat.le_of_ble_eq_true hc.2
        obtain ⟨c1, c2⟩ := cells_len hv
        have hxl := RL_len hr
        simp only [Array.length_toList] at hxl
        have hst : (x.cells.zipIdx.foldl (fun cs (y : Value × Nat) => cs.setIfInBounds (off + y.2) y.1) xs).toList = xs.toList.take off ++ x.cells.toList ++ xs.toList.drop (off + x.cells.size) := fill_step (by omega)
        have hrl : RL g (splice cells off v.cells) (x.cells.zipIdx.foldl (fun cs (y : Value × Nat) => cs.setIfInBounds (off + y.2) y.1) xs).toList := by
          rw [hst]
          have := splice_RL off hr c2
          simpa using this
        obtain ⟨ys, k1, k2⟩ := fillAt_sound hpl ht hrl h
        refine ⟨ys, ?_, k2⟩
        simp only [Instr.fill, hpl _ _ hp]
        rw [if_neg (by simp; omega)]
        exact k1
      · cases h
theorem sizesOf_sound (hT : TOk P T) {w : World} : ∀ {fields : List Field} {ps : List (Nat × Nat)}, sizesOf T (fields.map fun f => (f.offset, f.type)) = .ok ps →
    (fields.mapM fun f => do pure (f.offset, ← sizeOf f.type) : Sem (List (Nat × Nat))).run P w = .ok ps w
  | [], _, h => by
    simp only [List.map_nil, sizesOf, Except.ok.injEq] at h
    subst h
    rfl
  | f :: l, _, h => by
    simp only [List.map_cons, sizesOf, bind_ok, pure_ok] at h
    obtain ⟨i, h1, ps, h2, rfl⟩ := h
    have hi := hT _ i (ti_ok.1 h1)
    have ih := sizesOf_sound hT (w := w) h2
    rw [List.mapM_cons]
    simp only [Sem.run_bind, hi.run_size, Result.andThen_ok, Sem.run_pure, ih]
theorem build_sound (hT : TOk P T) {t : TypeId} {parts : List (Nat × AV)} {parts' : Array (Nat × Value)} {v : AV} (hp : build T t parts = .ok v) (hr : RParts g parts parts'.toList) (h : Inv T A g st w) :
    Gives P T A g w v st (Instr.build t parts') := by
  simp only [build, bind_ok] at hp
  obtain ⟨i, h1, h2⟩ := hp
  have hi := hT t i (ti_ok.1 h1)
  obtain ⟨z, z1, z2, z3, z4, z5, z6⟩ := hi.run_zero
  split at h2
  · rename_i fs hu
    obtain ⟨fields, k1, k2⟩ := und_struct hi hu
    simp only [bind_ok, pure_ok] at h2
    obtain ⟨ps, h3, cs, h4, rfl⟩ := h2
    rw [← k2] at h3
    have hm := sizesOf_sound hT (w := w) h3
    obtain ⟨ys, e1, e2⟩ := fillAt_sound (place' := fun k => ps.toArray[k]?) (fun k p hk => by simpa using hk) hr (z6 g) h4
    refine Gives.of h (x := .agg ys) ?_ (by simp only [R]; exact ⟨ys, rfl, e2⟩)
    have hm' : (fields.mapM fun f => do pure (f.offset, ← sizeOf f.type) : Sem (Array (Nat × Nat))).run P w = .ok ps.toArray w := by
      rw [Array.mapM_eq_mapM_toList]
      simp only [Sem.run_map, hm, Result.andThen_ok]
    simp only [Instr.build, Sem.run_bind, z1, Result.andThen_ok, k1, hm', e1, Sem.run_pure]
  · rename_i n e hu
    have k1 := und_arr hi hu
    simp only [bind_ok, pure_ok] at h2
    obtain ⟨j, h3, cs, h4, rfl⟩ := h2
    have hj := hT _ j (ti_ok.1 h3)
    obtain ⟨ys, e1, e2⟩ := fillAt_sound (place' := fun k => some (k * j.size, j.size)) (fun k p hk => hk) hr (z6 g) h4
    refine Gives.of h (x := .agg ys) ?_ (by simp only [R]; exact ⟨ys, rfl, e2⟩)
    simp only [Instr.build, Sem.run_bind, z1, Result.andThen_ok, k1, hj.run_size, e1, Sem.run_pure]
  · cases h2
theorem one_cells {v : AV} (h : one v = true) : v.cells = [v] := by cases v <;> first | rfl | simp [one] at h
theorem ones_drop {l : List AV} (n : Nat) (h : ones l = true) : ones (l.drop n) = true := by
  induction n generalizing l with
  | zero => exact h
  | succ n ih =>
    cases l with
    | nil => rfl
    | cons v l =>
      simp only [ones, Bool.and_eq_true] at h
      exact ih h.2
theorem group_flat {sz : Nat} {agg : Bool} (hz : agg = false → sz = 1) : ∀ {n : Nat} {cs els : List AV}, ones cs = true → group sz agg n cs = .ok els → flat els = cs.take (n * sz) ∧ (∀ e ∈ els, e.cells.length = sz) ∧ els.length = n
  | 0, cs, els, _, h => by
    simp only [group, Except.ok.injEq] at h
    subst h
    simp [flat]
  | n + 1, cs, els, ho, h => by
    simp only [group, bind_ok, pure_ok] at h
    obtain ⟨v, h1, l, h2, rfl⟩ := h
    obtain ⟨k1, k2, k3⟩ := group_flat hz (ones_drop sz ho) h2
    have key : v.cells = cs.take sz ∧ v.cells.length = sz := by
      cases agg with
      | true =>
        simp only [takeCells] at h1
        split at h1
        · rename_i hle
          have hle := Nat.le_of_ble_eq_true hle
          simp only [Except.ok.injEq] at h1
          subst h1
          exact ⟨rfl, by simp [AV.cells]; omega⟩
        · cases h1
      | false =>
        have hz := hz rfl
        subst hz
        simp only [takeCells] at h1
        cases cs with
        | nil => cases h1
        | cons c cs =>
          simp only [Except.ok.injEq] at h1
          subst h1
          simp only [ones, Bool.and_eq_true] at ho
          rw [one_cells ho.1]
          exact ⟨rfl, rfl⟩
    refine ⟨?_, ?_, by simp [k3]⟩
    · rw [flat_cons, k1, key.1, Nat.add_mul, Nat.one_mul, Nat.add_comm, List.take_add]
    · intro e he
      rcases List.mem_cons.1 he with rfl | he
      · exact key.2
      · exact k2 e he
def zerosL (z : List Value) : Nat → List Value
  | 0 => []
  | n + 1 => z ++ zerosL z n
theorem zeros_RL {z : List AV} {zs : List Value} (h : RL g z zs) : ∀ n, RL g (zeros z n) (zerosL zs n)
  | 0 => RL_nil
  | n + 1 => RL_append h (zeros_RL h n)
theorem zerosL_get (z : List Value) : ∀ (n j : Nat), j < n * z.length → (zerosL z n)[j]? = z[j % z.length]?
  | 0, j, h => by omega
  | n + 1, j, h => by
    simp only [zerosL]
    have hz : 0 < z.length := by
      rcases Nat.eq_zero_or_pos z.length with q | q
      · rw [q] at h; omega
      · exact q
    rw [Nat.add_mul, Nat.one_mul] at h
    rcases Nat.lt_or_ge j z.length with q | q
    · rw [List.getElem?_append_left q, Nat.mod_eq_of_lt q]
    · rw [List.getElem?_append_right q, zerosL_get z n _ (by omega), Nat.mod_eq_sub_mod q]
theorem zerosL_length (z : List Value) : ∀ n, (zerosL z n).length = n * z.length
  | 0 => by simp [zerosL]
  | n + 1 => by simp only [zerosL, List.length_append, zerosL_length z n, Nat.add_mul]; omega
theorem range_zeros (z : Array Value) (n : Nat) : ((Array.range (n * z.size)).map fun i => z[i % z.size]!).toList = zerosL z.toList n := by
  apply List.ext_getElem?
  intro j
  rcases Nat.lt_or_ge j (n * z.size) with q | q
  · rw [zerosL_get _ _ _ (by simpa using q)]
    have hz : 0 < z.size := by
      rcases Nat.eq_zero_or_pos z.size with r | r
      · rw [r] at q; omega
      · exact r
    have hm : j % z.size < z.size := Nat.mod_lt _ hz
    simp [q, hm]
  · rw [List.getElem?_eq_none (by simpa using q), List.getElem?_eq_none (by rw [zerosL_length]; simpa using q)]
theorem agg_one {t : TypeId} {i : TI} (hi : TIOk P t i) : i.agg = false → i.size = 1 := by
  obtain ⟨f, h1, h2, h3, z, h4, h5, h6, _⟩ := hi.info
  intro ha
  have := h6 ha
  rw [← h5]
  cases z <;> first | rfl | simp [Value.oneCell'] at this
theorem splice_length {cs new : List AV} {off : Nat} (h : off + new.length ≤ cs.length) : (splice cs off new).length = cs.length := by
  simp [splice]; omega
theorem fillAt_len {place : Nat → Option (Nat × Nat)} : ∀ {parts : List (Nat × AV)} {cells cs : List AV}, fillAt place cells parts = .ok cs → cs.length = cells.length
  | [], _, _, h => by
    simp only [fillAt, Except.ok.injEq] at h
    rw [h]
  | (i, v) :: l, cells, cs, h => by
    simp only [fillAt] at h
    split at h
    · cases h
    · split at h
      · rename_i hc
        simp only [Bool.and_eq_true] at hc
        have h1 := Nat.eq_of_beq_eq_true hc.1
        have h2 := Nat.le_of_ble_eq_true hc.2
        rw [fillAt_len h, splice_length (by omega)]
      · cases h
theorem zeros_length (z : List AV) : ∀ n, (zeros z n).length = n * z.length
  | 0 => by simp [zeros]
  | n + 1 => by simp only [zeros, List.length_append, zeros_length z n, Nat.add_mul]; omega
theorem buildSlice_sound (hT : TOk P T) {t : TypeId} {len : Nat} {parts : List (Nat × AV)} {parts' : Array (Nat × Value)} {v : AV} (hp : buildSlice T t len parts = .ok v) (hr : RParts g parts parts'.toList) (h : Inv T A g st w) :
    Gives P T A g w v st (Instr.buildSlice t len parts') := by
  simp only [buildSlice, bind_ok] at hp
  obtain ⟨i, h1, h2⟩ := hp
  have hi := hT t i (ti_ok.1 h1)
  split at h2
  · rename_i e hu
    have k1 := und_slice hi hu
    simp only [bind_ok] at h2
    obtain ⟨j, h3, h4⟩ := h2
    have hj := hT _ j (ti_ok.1 h3)
    split at h4
    · rename_i hc
      simp only [Bool.and_eq_true] at hc
      have c1 := Nat.le_of_ble_eq_true hc.1
      have c2 := Nat.le_of_ble_eq_true hc.2
      simp only [bind_ok] at h4
      obtain ⟨cs, h5, h6⟩ := h4
      split at h6
      · rename_i hones
        obtain ⟨z, z1, z2, z3, z4, z5, z6⟩ := hj.run_zero
        have hzl : RL g (zeros j.zero len) ((Array.range (len * z.cells.size)).map fun i => z.cells[i % z.cells.size]!).toList := by
          rw [range_zeros]; exact zeros_RL (z6 g) len
        obtain ⟨ys, e1, e2⟩ := fillAt_sound (place' := fun k => some (k * j.size, j.size)) (fun k p hk => hk) hr hzl h5
        have hcl : ys.size = len * j.size := by
          have q1 := fillAt_len h5
          rw [zeros_length] at q1
          have q2 := RL_len (z6 g)
          have q3 := RL_len e2
          simp only [Array.length_toList] at q2 q3
          rw [q3, q1, ← q2, z2]
        have hcsl : cs.length = len * j.size := by rw [← RL_len e2]; simpa using hcl
        have hone := ones_RL hones e2
        split at h6
        · cases h6
          obtain ⟨n1, n2, n3⟩ := h.newFixed e e2 hone
          refine ⟨.slice (some ⟨w.heap.size, 0, none⟩) len len, _, _, ?_, ?_, n1, n2⟩
          · simp only [Instr.buildSlice, Sem.run_bind, k1, Result.andThen_ok, hj.run_size, Sem.run_ite]
            rw [if_neg (by omega)]
            by_cases hz0 : len * j.size = 0
            · rw [z2, hz0] at e1
              simp only [hz0, if_true, Sem.run_pure, Result.andThen_ok]
              have : (Array.range 0).map (fun i => (#[] : Array Value)[i % (#[] : Array Value).size]!) = (Array.range 0).map fun i => z.cells[i % j.size]! := by simp
              rw [this, e1]
              simp only [Sem.run_bind, run_newRow, Result.andThen_ok, Sem.run_pure]
            · rw [z2] at e1
              simp only [hz0, if_false, Sem.run_bind, z1, Result.andThen_ok, Sem.run_pure, z2, e1, run_newRow]
          · simp only [R]
            exact ⟨hones, hcsl, c2, w.heap.size, rfl, n3⟩
        · simp only [bind_ok, pure_ok] at h6
          obtain ⟨els, h7, els', h8, rfl⟩ := h6
          obtain ⟨f1, f2, f3⟩ := group_flat (agg_one hj) hones h7
          rw [List.take_of_length_le (by omega)] at f1
          have e2' : RL g (flat els) ys.toList := by rw [f1]; exact e2
          obtain ⟨q1, q2, q3, q4⟩ := fits_flat h8 e2'
          obtain ⟨n1, n2, n3⟩ := h.newFixed e q1 hone
          refine ⟨.slice (some ⟨w.heap.size, 0, none⟩) len len, _, _, ?_, ?_, n1, n2⟩
          · simp only [Instr.buildSlice, Sem.run_bind, k1, Result.andThen_ok, hj.run_size, Sem.run_ite]
            rw [if_neg (by omega)]
            by_cases hz0 : len * j.size = 0
            · rw [z2, hz0] at e1
              simp only [hz0, if_true, Sem.run_pure, Result.andThen_ok]
              have : (Array.range 0).map (fun i => (#[] : Array Value)[i % (#[] : Array Value).size]!) = (Array.range 0).map fun i => z.cells[i % j.size]! := by simp
              rw [this, e1]
              simp only [Sem.run_bind, run_newRow, Result.andThen_ok, Sem.run_pure]
            · rw [z2] at e1
              simp only [hz0, if_false, Sem.run_bind, z1, Result.andThen_ok, Sem.run_pure, z2, e1, run_newRow]
          · simp only [R]
            refine ⟨q2, w.heap.size, 0, len, by rw [q3, f3], by rw [q3, f3]; omega, c2, ?_, by show len = els'.length; rw [q3, f3]⟩
            rw [RAtE_iff]
            refine ⟨?_, n3⟩
            intro u hu
            have : u.cells.length ∈ els'.map (·.cells.length) := List.mem_map.2 ⟨u, hu, rfl⟩
            rw [q4] at this
            obtain ⟨u', hu', e⟩ := List.mem_map.1 this
            rw [← e]; exact f2 u' hu'
      · cases h6
    · cases h4
  · cases h2
end
section
variable {P : Program} {T : TT} {A : Nat → Prop} {g : Gh} {st : St} {w : World}
mutual
theorem ofConst_sound (g : Gh) : ∀ (x : Value) (v : AV), ofConst x = .ok v → R g v x
  | .bool _, v, h | .int _ _, v, h | .float _ _, v, h | .nilFunc, v, h | .nilIface, v, h => by
    unfold ofConst at h; simp only [Except.ok.injEq] at h; subst h; simp only [R]
  | .string s, v, h => by
    unfold ofConst at h; simp only [Except.ok.injEq] at h; subst h; simp only [R]
  | .pointer a, v, h => by
    cases a with
    | none => unfold ofConst at h; simp only [Except.ok.injEq] at h; subst h; simp only [R]
    | some _ => unfold ofConst at h; cases h
  | .slice a l c, v, h => by
    unfold ofConst at h
    split at h <;> rename_i heq <;> (try (cases heq; done)) <;> (try (cases h; done))
    cases heq
    simp only [Except.ok.injEq] at h; subst h; simp only [R]
  | .map a, v, h => by
    cases a with
    | none => unfold ofConst at h; simp only [Except.ok.injEq] at h; subst h; simp only [R]
    | some _ => unfold ofConst at h; cases h
  | .agg cs, v, h => by
    unfold ofConst at h
    simp only [bind_ok, pure_ok] at h
    obtain ⟨vs, h1, rfl⟩ := h
    simp only [R]
    exact ⟨cs, rfl, ofAll_sound g cs.toList vs h1⟩
  | .tuple cs, v, h => by
    unfold ofConst at h
    simp only [bind_ok, pure_ok] at h
    obtain ⟨vs, h1, rfl⟩ := h
    simp only [R]
    exact ⟨cs, rfl, ofAll_sound g cs.toList vs h1⟩
  | .complex _ _ _, v, h | .chan _, v, h | .func _ _ _, v, h | .iface _ _, v, h => by
    unfold ofConst at h; cases h
theorem ofAll_sound (g : Gh) : ∀ (xs : List Value) (vs : List AV), ofConst.ofAll xs = .ok vs → RL g vs xs
  | [], vs, h => by
    unfold ofConst.ofAll at h; simp only [Except.ok.injEq] at h; subst h; exact RL_nil
  | x :: xs, vs, h => by
    unfold ofConst.ofAll at h
    simp only [bind_ok, pure_ok] at h
    obtain ⟨v, h1, l, h2, rfl⟩ := h
    exact RL_cons (ofConst_sound g x v h1) (ofAll_sound g xs l h2)
end
theorem R_undef : R g undef Go.undef := by
  simp only [undef, R]; exact ⟨#[], rfl, by simp [RL]⟩
theorem FrR.put {fr : Fr} {tmps : Array Value} (h : FrR g fr tmps) {v : AV} {x : Value} (hx : R g v x) (d : Option Tmp) :
    FrR g (fr.put d v) (match d with | some d => tmps.setIfInBounds d x | none => tmps) := by
  cases d with
  | none => exact h
  | some d =>
    simp only [Fr.put]
    split
    · rename_i hd
      rw [blt_true, ← h.size] at hd
      refine ⟨by simp [h.size], fun t => ?_⟩
      simp only [Fr.get, Tr.get_put]
      by_cases ht : d = t
      · subst ht
        right
        simpa [hd] using hx
      · have := h.at' t
        simp only [Fr.get] at this
        simpa [ht, Array.getElem?_setIfInBounds_ne ht] using this
    · rename_i hd
      rw [blt_false, ← h.size] at hd
      rw [Array.setIfInBounds_eq_of_size_le (by simpa using hd)]
      exact h
abbrev mark0 : Nat := 1000003
def GR (g : Gh) (G : Nat → Option (List AV)) : Prop := ∀ k cs, G k = some cs → bares cs = true ∧ RAt g cs k 0 ∧ (k = mark0 → ¬ g.C)
theorem GR.mono {g g' : Gh} {G : Nat → Option (List AV)} (h : GR g G) (le : Le g g') : GR g' G := fun k cs hk => ⟨(h k cs hk).1, RAt_mono le _ _ _ (h k cs hk).2.1, fun e c => (h k cs hk).2.2 e (le.C.1 c)⟩
theorem evalO_sound {G : Nat → Option (List AV)} {fr : Fr} {a : Act} {x : Operand} {v : AV} (hG : GR g G) (hf : FrR g fr a.tmps) (h : evalO G fr x = .ok v) : R g v (a.eval x) := by
  cases x with
  | tmp t =>
    simp only [evalO] at h
    split at h
    · rename_i hs
      simp only [Except.ok.injEq] at h
      subst h
      exact hf.at hs t
    · split at h
      · rename_i u hu
        simp only [Except.ok.injEq] at h
        subst h
        rcases hf.at' t with ⟨_, h2⟩ | h2
        · rw [hu] at h2; cases h2
        · rw [Fr.get, hu] at h2; exact h2
      · cases h
  | const c => exact ofConst_sound g c v h
  | global k =>
    simp only [evalO] at h
    split at h
    · rename_i cs hk
      simp only [Except.ok.injEq] at h
      subst h
      obtain ⟨h1, h2, _⟩ := hG k cs hk
      simp only [R, Act.eval]
      exact ⟨h1, k, 0, rfl, h2⟩
    · cases h
  | func f =>
    simp only [evalO, Except.ok.injEq] at h
    subst h
    simp only [R, Act.eval]
    exact ⟨#[], #[], rfl, by simp [RL], by simp [RL]⟩
theorem evalL_sound {G : Nat → Option (List AV)} {fr : Fr} {a : Act} (hG : GR g G) (hf : FrR g fr a.tmps) : ∀ {xs : List Operand} {vs : List AV}, evalL G fr xs = .ok vs → RL g vs (xs.map a.eval)
  | [], _, h => by simp only [evalL, Except.ok.injEq] at h; subst h; exact RL_nil
  | x :: xs, _, h => by
    simp only [evalL, bind_ok, pure_ok] at h
    obtain ⟨v, h1, l, h2, rfl⟩ := h
    exact RL_cons (evalO_sound hG hf h1) (evalL_sound hG hf h2)
theorem evalOpt_sound {G : Nat → Option (List AV)} {fr : Fr} {a : Act} (hG : GR g G) (hf : FrR g fr a.tmps) {x : Option Operand} {v : Option AV} (h : evalOpt G fr x = .ok v) : ORel g v (x.map a.eval) := by
  cases x with
  | none => simp only [evalOpt, Except.ok.injEq] at h; subst h; trivial
  | some x =>
    simp only [evalOpt, bind_ok, pure_ok] at h
    obtain ⟨u, h1, rfl⟩ := h
    exact evalO_sound hG hf h1
theorem evalParts_sound {G : Nat → Option (List AV)} {fr : Fr} {a : Act} (hG : GR g G) (hf : FrR g fr a.tmps) : ∀ {xs : List (Nat × Operand)} {vs : List (Nat × AV)}, evalParts G fr xs = .ok vs → RParts g vs (xs.map fun (i, x) => (i, a.eval x))
  | [], _, h => by simp only [evalParts, Except.ok.injEq] at h; subst h; exact .nil
  | (i, x) :: xs, _, h => by
    simp only [evalParts, bind_ok, pure_ok] at h
    obtain ⟨v, h1, l, h2, rfl⟩ := h
    exact .cons (evalO_sound hG hf h1) (evalParts_sound hG hf h2)
theorem keyEq_sound {d : TypeDesc} {u : U} {a b : AV} {r : Bool} {x y : Value} (hu : UOk d u) (ha : keyOk u a = true) (h : keyEq a b = .ok r) (hx : R g a x) (hy : R g b y) : Instr.sameNow d x y = some r := by
  unfold keyEq at h
  split at h
  · simp only [Except.ok.injEq] at h
    subst h
    simp only [R] at hx hy
    subst hx hy
    cases u <;> simp [keyOk] at ha
    simp only [UOk] at hu
    subst hu
    rfl
  · rename_i j a k b
    split at h
    · rename_i hjk
      subst hjk
      simp only [Except.ok.injEq] at h
      subst h
      simp only [R] at hx hy
      subst hx hy
      cases u <;> simp [keyOk] at ha
      simp only [UOk] at hu
      subst hu
      simp [Instr.sameNow]
    · cases h
  · simp only [Except.ok.injEq] at h
    subst h
    simp only [R] at hx hy
    subst hx hy
    cases u <;> simp [keyOk] at ha
    simp only [UOk] at hu
    subst hu
    simp [Instr.sameNow, bs_beq]
  · cases u <;> simp [keyOk] at ha
  · cases h
theorem ok_bd {α β : Type} (a : α) (f : α → Res β) : ((Except.ok a : Res α) >>= f) = f a := rfl
inductive Pos (k : AV) : List (AV × AV) → Option Nat → Prop
  | nil : Pos k [] none
  | hit {a v : AV} {es : List (AV × AV)} : keyEq k a = .ok true → Pos k ((a, v) :: es) (some 0)
  | miss {a v : AV} {es : List (AV × AV)} {o : Option Nat} : keyEq k a = .ok false → Pos k es o → Pos k ((a, v) :: es) (o.map (· + 1))
def valAt (ents : List MapEntry) (j : Nat) : Value := ((ents[j]?).map (·.val)).getD (.bool false)
theorem findNow_pos {d : TypeDesc} {u : U} {k : AV} {kx : Value} (hu : UOk d u) (hk : keyOk u k = true) (hx : R g k kx) {es : List (AV × AV)} {o : Option Nat} (hp : Pos k es o) : ∀ {ents : List MapEntry} (i : Nat), REs g es ents →
    Instr.findNow d kx ents i = some (o.map fun j => (i + j, valAt ents j)) := by
  induction hp with
  | nil => intro ents i hr; simp only [REs] at hr; subst hr; rfl
  | hit h1 =>
    intro ents i hr
    simp only [REs] at hr
    obtain ⟨e, l, rfl, r1, r2, r3⟩ := hr
    simp [Instr.findNow, keyEq_sound hu hk h1 hx r1, valAt]
  | @miss a v es o h1 hp ih =>
    intro ents i hr
    simp only [REs] at hr
    obtain ⟨e, l, rfl, r1, r2, r3⟩ := hr
    simp only [Instr.findNow, keyEq_sound hu hk h1 hx r1]
    rw [ih (i + 1) r3]
    cases o with
    | none => rfl
    | some j => simp only [Option.map_some, valAt, List.getElem?_cons_succ]; rw [show i + 1 + j = i + (j + 1) by omega]
theorem findAsk_pos {kt : TypeId} {k : AV} {kx : Value} (heq : ∀ a y r, keyEq k a = .ok r → R g a y → (Op.equal kt kx y).run P w = .ok r w) {es : List (AV × AV)} {o : Option Nat} (hp : Pos k es o) : ∀ {ents : List MapEntry} (i : Nat), REs g es ents →
    (Instr.findAsking kt kx ents i).run P w = .ok (o.map fun j => (i + j, valAt ents j)) w := by
  induction hp with
  | nil => intro ents i hr; simp only [REs] at hr; subst hr; simp [Instr.findAsking]
  | hit h1 =>
    intro ents i hr
    simp only [REs] at hr
    obtain ⟨e, l, rfl, r1, r2, r3⟩ := hr
    simp [Instr.findAsking, heq _ _ _ h1 r1, valAt]
  | @miss a v es o h1 hp ih =>
    intro ents i hr
    simp only [REs] at hr
    obtain ⟨e, l, rfl, r1, r2, r3⟩ := hr
    simp only [Instr.findAsking, Sem.run_bind, heq _ _ _ h1 r1, Result.andThen_ok, Bool.false_eq_true, if_false]
    rw [ih (i + 1) r3]
    cases o with
    | none => rfl
    | some j => simp only [Option.map_some, valAt, List.getElem?_cons_succ]; rw [show i + 1 + j = i + (j + 1) by omega]
theorem findEntry_pos {k : AV} : ∀ {es : List (AV × AV)} {r : Option AV}, findEntry k es = .ok r → ∃ o, Pos k es o ∧ r = o.bind fun j => (es[j]?).map (·.2)
  | [], r, h => by simp only [findEntry, Except.ok.injEq] at h; subst h; exact ⟨none, .nil, rfl⟩
  | (a, v) :: es, r, h => by
    simp only [findEntry, bind_ok] at h
    obtain ⟨b, h1, h2⟩ := h
    cases b with
    | true => simp only [pure_ok] at h2; subst h2; exact ⟨some 0, .hit h1, rfl⟩
    | false =>
      obtain ⟨o, q1, q2⟩ := findEntry_pos h2
      refine ⟨_, .miss h1 q1, ?_⟩
      rw [q2]
      cases o <;> rfl
theorem setEntry_pos {k v : AV} : ∀ {es es' : List (AV × AV)}, setEntry k v es = .ok es' → ∃ o, Pos k es o ∧ match o with | none => es' = es ++ [(k, v)] | some j => ∃ a u, es[j]? = some (a, u) ∧ keyEq k a = .ok true ∧ es' = es.modify j fun e => (e.1, v)
  | [], _, h => by simp only [setEntry, Except.ok.injEq] at h; subst h; exact ⟨none, .nil, rfl⟩
  | (a, u) :: es, _, h => by
    simp only [setEntry, bind_ok] at h
    obtain ⟨b, h1, h2⟩ := h
    cases b with
    | true => simp only [pure_ok] at h2; subst h2; exact ⟨some 0, .hit h1, a, u, rfl, h1, rfl⟩
    | false =>
      simp only [bind_ok, pure_ok] at h2
      obtain ⟨l', h3, rfl⟩ := h2
      obtain ⟨o, q1, q2⟩ := setEntry_pos h3
      refine ⟨_, .miss h1 q1, ?_⟩
      cases o with
      | none => simp only at q2; subst q2; rfl
      | some j =>
        obtain ⟨a', u', e1, e2, rfl⟩ := q2
        exact ⟨a', u', by simpa using e1, e2, by simp⟩
theorem delEntry_pos {k : AV} : ∀ {es es' : List (AV × AV)}, delEntry k es = .ok es' → ∃ o, Pos k es o ∧ match o with | none => es' = es | some j => j < es.length ∧ es' = es.eraseIdx j
  | [], _, h => by simp only [delEntry, Except.ok.injEq] at h; subst h; exact ⟨none, .nil, rfl⟩
  | (a, u) :: es, _, h => by
    simp only [delEntry, bind_ok] at h
    obtain ⟨b, h1, h2⟩ := h
    cases b with
    | true => simp only [pure_ok] at h2; subst h2; exact ⟨some 0, .hit h1, by simp, rfl⟩
    | false =>
      simp only [bind_ok, pure_ok] at h2
      obtain ⟨l', h3, rfl⟩ := h2
      obtain ⟨o, q1, q2⟩ := delEntry_pos h3
      refine ⟨_, .miss h1 q1, ?_⟩
      cases o with
      | none => simp only at q2; subst q2; rfl
      | some j =>
        obtain ⟨e1, rfl⟩ := q2
        exact ⟨by simpa using e1, by simp⟩
theorem REs_nth : ∀ {es : List (AV × AV)} {ents : List MapEntry} {j : Nat} {a v : AV}, REs g es ents → es[j]? = some (a, v) → ∃ e, ents[j]? = some e ∧ R g a e.key ∧ R g v e.val
  | [], _, _, _, _, _, h => by simp at h
  | (a, v) :: es, ents, j, a', v', hr, h => by
    simp only [REs] at hr
    obtain ⟨e, l, rfl, r1, r2, r3⟩ := hr
    cases j with
    | zero => simp only [List.getElem?_cons_zero, Option.some.injEq, Prod.mk.injEq] at h; obtain ⟨rfl, rfl⟩ := h; exact ⟨e, rfl, r1, r2⟩
    | succ j => simp only [List.getElem?_cons_succ] at h ⊢; exact REs_nth r3 h
theorem REs_snoc {k v : AV} {e : MapEntry} (hk : R g k e.key) (hv : R g v e.val) : ∀ {es : List (AV × AV)} {ents : List MapEntry}, REs g es ents → REs g (es ++ [(k, v)]) (ents ++ [e])
  | [], _, hr => by simp only [REs] at hr; subst hr; simp only [List.nil_append, REs]; exact ⟨_, _, rfl, hk, hv, rfl⟩
  | (a, u) :: es, _, hr => by
    simp only [REs] at hr
    obtain ⟨e', l, rfl, r1, r2, r3⟩ := hr
    simp only [List.cons_append, REs]
    exact ⟨_, _, rfl, r1, r2, REs_snoc hk hv r3⟩
theorem REs_modify {v : AV} {f : MapEntry → MapEntry} : ∀ {es : List (AV × AV)} {ents : List MapEntry} {j : Nat}, REs g es ents → (∀ a u e, es[j]? = some (a, u) → ents[j]? = some e → R g a (f e).key ∧ R g v (f e).val) → REs g (es.modify j fun e => (e.1, v)) (ents.modify j f)
  | [], _, j, hr, _ => by simp only [REs] at hr; subst hr; cases j <;> simp [REs]
  | (a, u) :: es, _, j, hr, h => by
    simp only [REs] at hr
    obtain ⟨e', l, rfl, r1, r2, r3⟩ := hr
    cases j with
    | zero =>
      obtain ⟨q1, q2⟩ := h a u e' rfl rfl
      simp only [List.modify_zero_cons, REs]
      exact ⟨_, _, rfl, q1, q2, r3⟩
    | succ j =>
      simp only [List.modify_succ_cons, REs]
      exact ⟨_, _, rfl, r1, r2, REs_modify r3 fun a u e h1 h2 => h a u e (by simpa using h1) (by simpa using h2)⟩
theorem REs_erase : ∀ {es : List (AV × AV)} {ents : List MapEntry} (j : Nat), REs g es ents → REs g (es.eraseIdx j) (ents.eraseIdx j)
  | [], _, j, hr => by simp only [REs] at hr; subst hr; simp [REs]
  | (a, u) :: es, _, j, hr => by
    simp only [REs] at hr
    obtain ⟨e', l, rfl, r1, r2, r3⟩ := hr
    cases j with
    | zero => simpa using r3
    | succ j =>
      simp only [List.eraseIdx_cons_succ, REs]
      exact ⟨_, _, rfl, r1, r2, REs_erase j r3⟩
theorem strFields_eq (f : Nat) : ∀ {fs : List (Nat × TypeId)} {xs ys : List AV} {n : Nat} {r : Bool} {X Y : List AV}, strFields T fs xs n = true → strsEq xs ys = .ok r → X.drop n = xs → Y.drop n = ys → eqFields T (eqT T (f + 1)) X Y fs = .ok r
  | [], xs, ys, n, r, X, Y, h, he, hX, hY => by
    cases xs with
    | cons x xs => simp [strFields] at h
    | nil =>
      cases ys with
      | cons y ys => simp [strsEq] at he
      | nil => simp only [strsEq] at he; simp only [eqFields]; exact he
  | (o, t) :: l, xs, ys, n, r, X, Y, h, he, hX, hY => by
    cases xs with
    | nil => simp [strFields] at h
    | cons x cs =>
      cases x <;> simp only [strFields] at h <;> (try (cases h; done))
      rename_i a
      split at h
      · rename_i i hi
        split at h
        · rename_i hu
          split at h
          · rename_i hc
            simp only [Bool.and_eq_true, Bool.not_eq_true'] at hc
            obtain ⟨c1, c2, c3⟩ := hc
            have c1 := Nat.eq_of_beq_eq_true c1
            have c2 := Nat.eq_of_beq_eq_true c2
            subst c1
            cases ys with
            | nil => simp [strsEq] at he
            | cons y m =>
              cases y <;> simp only [strsEq] at he <;> (try (cases he; done))
              rename_i b
              have hti : ti T t = .ok i := ti_ok.2 hi
              have e1 : eqFields T (eqT T (f + 1)) X Y ((o, t) :: l) = (do match ← eqT T (f + 1) t (.str a) (.str b) with | true => eqFields T (eqT T (f + 1)) X Y l | false => .ok false) := by
                simp only [eqFields, hti, ok_bd, hX, hY, c3, takeCells]
                rfl
              have e2 : eqT T (f + 1) t (.str a) (.str b) = .ok (a == b) := by
                simp only [eqT, hti, ok_bd, hu]
              rw [e1, e2, ok_bd]
              cases hab : a == b with
              | true =>
                rw [hab] at he
                exact strFields_eq f h he (by rw [← List.drop_drop, hX]; rfl) (by rw [← List.drop_drop, hY]; rfl)
              | false => rw [hab] at he; exact he
          · cases h
        · cases h
      · cases h
theorem strFields_check (hT : TOk P T) {b : Bool} {m : Nat} {cv : Array Value} : ∀ {fields : List Field} {xs : List AV} {n : Nat}, strFields T (fields.map fun f => (f.offset, f.type)) xs n = true → RL g xs (cv.toList.drop n) →
    (forIn fields PUnit.unit fun (f : Field) (_ : PUnit) => (do if f.name ≠ "_" then do Instr.checkKey b (m + 1) f.type (← part f.type cv f.offset); pure (ForInStep.yield PUnit.unit) else pure (ForInStep.yield PUnit.unit) : Sem (ForInStep PUnit))).run P w = .ok PUnit.unit w
  | [], _, _, _, _ => by simp
  | fl :: l, xs, n, h, hr => by
    simp only [List.map_cons] at h
    cases xs with
    | nil => simp [strFields] at h
    | cons x cs =>
      cases x <;> simp only [strFields] at h <;> (try (cases h; done))
      rename_i a
      split at h
      · rename_i i hi
        split at h
        · rename_i hu
          split at h
          · rename_i hc
            simp only [Bool.and_eq_true, Bool.not_eq_true'] at hc
            obtain ⟨c1, c2, c3⟩ := hc
            have c1 := Nat.eq_of_beq_eq_true c1
            have hti := hT _ i hi
            simp only [RL] at hr
            obtain ⟨x, l', e1, e2, e3⟩ := hr
            simp only [R] at e2
            subst e2
            have hx : cv[fl.offset]? = some (.string ⟨a.toArray⟩) := by
              have := congrArg (·[0]?) e1
              simp only [List.getElem?_drop, Nat.add_zero, Array.getElem?_toList, List.getElem?_cons_zero] at this
              rw [c1]; exact this
            have hpart : (part fl.type cv fl.offset).run P w = .ok (.string ⟨a.toArray⟩) w := by
              simp [part, hti.run_agg, c3, hx]
            have hck : (Instr.checkKey b (m + 1) fl.type (.string ⟨a.toArray⟩)).run P w = .ok () w := by
              obtain ⟨d, d1, d2, _⟩ := hti.und
              rw [hu] at d2
              simp only [UOk] at d2
              subst d2
              simp [Instr.checkKey, und_run d1]
            have ih := strFields_check hT (b := b) (m := m) (cv := cv) (fields := l) (n := n + 1) h (by rw [← List.drop_drop, e1]; exact e3)
            simp only [List.forIn_cons, Sem.run_bind, Sem.run_ite, hpart, Result.andThen_ok, hck, Sem.run_pure]
            split <;> simpa using ih
          · cases h
        · cases h
      · cases h
theorem checkKey_in (hT : TOk P T) {kt : TypeId} {ki : TI} {k : AV} {kx : Value} (hti : TIOk P kt ki) (hk : keyIn T ki k = true) (hx : R g k kx) (b : Bool) (n : Nat) : (Instr.checkKey b (n + 2) kt kx).run P w = .ok () w := by
  obtain ⟨d, d1, d2, _⟩ := hti.und
  unfold keyIn at hk
  split at hk
  · rename_i fs cs hu
    simp only [Bool.and_eq_true] at hk
    rw [hu] at d2
    obtain ⟨fields, rfl, rfl⟩ := d2
    simp only [R] at hx
    obtain ⟨ys, rfl, hl⟩ := hx
    have := strFields_check (P := P) (w := w) hT (b := b) (m := n) (cv := ys) (n := 0) hk.2 (by simpa using hl)
    rw [Instr.checkKey]
    simp only [Sem.run_bind, und_run d1, Result.andThen_ok]
    rw [← Array.forIn_toList, this]
    simp
  · rename_i kk _ _ _
    cases hu : ki.und <;> rw [hu] at hk d2 <;> cases kk <;> simp [keyOk] at hk <;> simp only [UOk] at d2 <;> simp only [R] at hx <;> subst d2 hx <;> simp [Instr.checkKey, und_run d1]
theorem findKey_pos (hT : TOk P T) {kt : TypeId} {ki : TI} {k : AV} {kx : Value} (hg : T.get kt = some ki) (hk : keyIn T ki k = true) (hx : R g k kx) {es : List (AV × AV)} {o : Option Nat} (hp : Pos k es o) {ents : List MapEntry} (hr : REs g es ents) :
    (Instr.findKey kt kx ents).run P w = .ok (o.map fun j => (j, valAt ents j)) w := by
  have hti := hT kt ki hg
  obtain ⟨d, d1, d2, _⟩ := hti.und
  unfold keyIn at hk
  split at hk
  · rename_i fs cs hu
    simp only [Bool.and_eq_true] at hk
    have hask := findAsk_pos (P := P) (w := w) (kt := kt) (kx := kx) (k := .agg cs) (fun a y r h1 h2 => by
      cases a <;> simp only [keyEq] at h1 <;> (try (cases h1; done))
      rename_i ds
      have := strFields_eq (T := T) 18 hk.2 h1 (X := cs) (Y := ds) rfl rfl
      exact eqT_sound hT 20 Op.maxDepth kt (.agg cs) (.agg ds) r kx y (by decide) (by simp only [eqT, ti_ok.2 hg, ok_bd, hu, hk.1]; exact this) hx h2) hp 0 hr
    simp only [Nat.zero_add] at hask
    rw [hu] at d2
    obtain ⟨fields, rfl, rfl⟩ := d2
    cases ents with
    | nil =>
      cases hp with
      | nil => simp [Instr.findKey, und_run d1, Instr.findNow]
      | hit h1 => simp [REs] at hr
      | miss h1 h2 => simp [REs] at hr
    | cons e l =>
      have : ∀ q, Instr.sameNow (.struct fields) kx q = none := fun q => rfl
      simp only [Instr.findKey, Sem.run_bind, und_run d1, Result.andThen_ok, Instr.findNow, this]
      exact hask
  · have := findNow_pos d2 hk hx hp 0 hr
    simp only [Nat.zero_add] at this
    simp [Instr.findKey, und_run d1, this]
theorem zeroV_sound {t : TypeId} {i : TI} (hi : TIOk P t i) : ∃ z, (∀ w, (zeroValue t).run P w = .ok z w) ∧ R g (zeroV i) z := by
  obtain ⟨z, z1, z2, z3, z4, z5, z6⟩ := hi.run_zero
  refine ⟨z, z1, ?_⟩
  cases ha : i.agg with
  | true =>
    obtain ⟨cs, rfl⟩ := z5 ha
    simp only [zeroV, ha, R]
    exact ⟨cs, rfl, z6 g⟩
  | false =>
    have h1 := z3 ha
    have hz : z.cells = #[z] := by cases z <;> first | rfl | simp [Value.oneCell'] at h1
    have h6 := z6 g
    rw [hz] at h6
    cases hl : i.zero with
    | nil => rw [hl] at h6; simp only [RL] at h6; cases h6
    | cons v l =>
      rw [hl] at h6
      simp only [RL] at h6
      obtain ⟨x, xs, e1, e2, e3⟩ := h6
      simp only [List.cons.injEq] at e1
      obtain ⟨rfl, rfl⟩ := e1
      cases l with
      | nil => simp only [zeroV, ha, hl]; exact e2
      | cons u l => simp only [RL] at e3; obtain ⟨_, _, e, _⟩ := e3; cases e
theorem found_sound (hT : TOk P T) {et kt : TypeId} {i ki : TI} {ok : Bool} {k v : AV} {kx : Value} {es : List (AV × AV)} {ents : Array MapEntry} (hi : TIOk P et i) (hg : T.get kt = some ki) (hk : keyIn T ki k = true) (hx : R g k kx)
    (hf : found i ok k es = .ok v) (hr : REs g es ents.toList) : (Instr.checkKey ents.isEmpty 10000 kt kx).run P w = .ok () w ∧
      ((∃ j y, (Instr.findKey kt kx ents.toList).run P w = .ok (some (j, y)) w ∧ R g v (if ok then Value.tuple #[y, .bool true] else y)) ∨
       ((Instr.findKey kt kx ents.toList).run P w = .ok none w ∧ ∃ z, (zeroValue et).run P w = .ok z w ∧ R g v (if ok then Value.tuple #[z, .bool false] else z))) := by
  simp only [found, bind_ok] at hf
  obtain ⟨fr, h3, h4⟩ := hf
  obtain ⟨o, hpos, hfr⟩ := findEntry_pos h3
  have hfe := findKey_pos (w := w) hT hg hk hx hpos hr
  obtain ⟨z, z1, z2⟩ := zeroV_sound (g := g) hi
  have fin : ∀ (b : Bool) (v' : AV) (y : Value), R g v' y → R g (okV ok b v') (if ok then Value.tuple #[y, .bool b] else y) := fun b v' y hy => by
    cases ok with
    | true => simp only [okV, if_true, R]; exact ⟨_, rfl, RL_cons hy (RL_cons (by simp only [R]) RL_nil)⟩
    | false => simpa [okV] using hy
  refine ⟨checkKey_in hT (hT _ _ hg) hk hx _ 9998, ?_⟩
  cases fr with
  | none =>
    simp only [pure_ok] at h4
    subst h4
    cases o with
    | none => exact .inr ⟨hfe, z, z1 w, fin false _ z z2⟩
    | some j =>
      exfalso
      have : ∀ {es : List (AV × AV)} {j : Nat}, Pos k es (some j) → es[j]? ≠ none := by
        intro es j hp
        generalize ho : some j = o' at hp
        induction hp generalizing j with
        | nil => cases ho
        | hit h => cases ho; simp
        | @miss a v es o' h hp ih =>
          cases o' with
          | none => cases ho
          | some j' => simp only [Option.map_some, Option.some.injEq] at ho; subst ho; simpa using ih rfl
      have := this hpos
      simp only [Option.bind_some] at hfr
      cases he : es[j]? with
      | none => exact this he
      | some e => rw [he] at hfr; cases hfr
  | some u' =>
    simp only [pure_ok] at h4
    subst h4
    cases o with
    | none => cases hfr
    | some j =>
      simp only [Option.bind_some] at hfr
      cases he : es[j]? with
      | none => rw [he] at hfr; cases hfr
      | some e =>
        rw [he] at hfr
        cases hfr
        obtain ⟨e', q1, q2, q3⟩ := REs_nth hr (a := e.1) (v := e.2) he
        exact .inl ⟨j, _, hfe, fin true _ _ (by simp only [valAt, q1]; exact q3)⟩
theorem lookup_sound (hT : TOk P T) {C : Caller} {t : TypeId} {x k v : AV} {xv kv : Value} {ok : Bool} {p : Plan} {fx : Fx} (hp : lookupP T t x k ok = .ok p) (hrun : runPlan C st p = .ok (v, fx)) (hx : R g x xv) (hk : R g k kv) (h : Inv T A g st w) :
    Gives P T A g w v (fx.did.app st) (Instr.lookup t xv kv ok) := by
  simp only [lookupP, bind_ok] at hp
  obtain ⟨i, h1, h2⟩ := hp
  have hi := hT t i (ti_ok.1 h1)
  split at h2
  · rename_i kt et hu
    have k1 := und_map hi hu
    simp only [bind_ok] at h2
    obtain ⟨ei, h3, ki, h4, h5⟩ := h2
    have hei := hT _ ei (ti_ok.1 h3)
    have hki := hT _ ki (ti_ok.1 h4)
    split at h5
    · cases h5
    · rename_i hok
      split at h5
      · simp only [bind_ok, pure_ok] at h5
        obtain ⟨u, h6, rfl⟩ := h5
        simp only [runPlan, Except.ok.injEq, Prod.mk.injEq] at hrun
        obtain ⟨rfl, rfl⟩ := hrun
        simp only [R] at hx
        subst hx
        obtain ⟨c, ⟨j, y, e1, e2⟩ | ⟨e1, z, e2, e3⟩⟩ := found_sound (P := P) (w := w) (ents := #[]) hT hei (ti_ok.1 h4) hok hk h6 (by simp [REs])
        · simp only [List.isEmpty_toArray, List.isEmpty_nil] at c
          exact Gives.of h (by simp [Instr.lookup, k1, c, e1]) e2
        · simp only [List.isEmpty_toArray, List.isEmpty_nil] at c
          exact Gives.of h (by simp [Instr.lookup, k1, c, e1, e2]) e3
      · rename_i es
        simp only [bind_ok, pure_ok] at h5
        obtain ⟨u, h6, rfl⟩ := h5
        simp only [runPlan, Except.ok.injEq, Prod.mk.injEq] at hrun
        obtain ⟨rfl, rfl⟩ := hrun
        simp only [R] at hx
        obtain ⟨b, ents, clk, m1, rfl, m2⟩ := hx
        have hheap := h.M b ents clk m1
        have hgo : (getObj b).run P w = .ok (.map ents.toArray clk) w := by simp [getObj, Sem.run, hheap]
        obtain ⟨c, ⟨j, y, e1, e2⟩ | ⟨e1, z, e2, e3⟩⟩ := found_sound (P := P) (w := w) (ents := ents.toArray) hT hei (ti_ok.1 h4) hok hk h6 (by simpa using m2)
        · exact Gives.of h (by simp only [Instr.lookup, Sem.run_bind, k1, Result.andThen_ok, hgo, Sem.run_pure, c, e1]) e2
        · exact Gives.of h (by simp only [Instr.lookup, Sem.run_bind, k1, Result.andThen_ok, hgo, Sem.run_pure, c, e1, e2]) e3
      · rename_i m
        simp only [pure_ok] at h5
        subst h5
        simp only [readP, runPlan, bind_ok, pure_ok] at hrun
        obtain ⟨o, g1, ⟨v', o'⟩, ⟨v'', g2, g4⟩, dd, g5, g6⟩ := hrun
        simp only [Prod.mk.injEq] at g4 g6
        obtain ⟨rfl, rfl⟩ := g4
        simp only [didOf, Except.ok.injEq] at g5
        subst g5
        obtain ⟨rfl, rfl⟩ := g6
        split at g2
        · rename_i es
          simp only [R] at hx
          obtain ⟨b, hE, rfl⟩ := hx
          obtain ⟨b', ents, clk, q1, q2, q3, q4⟩ := h.H m _ g1
          have hb : b' = b := by have := q1.symm.trans hE; simpa using this
          subst hb
          have hgo : (getObj b').run P w = .ok (.map ents clk) w := by simp [getObj, Sem.run, q2]
          obtain ⟨c, ⟨j, y, e1, e2⟩ | ⟨e1, z, e2, e3⟩⟩ := found_sound (P := P) (w := w) (ents := ents) hT hei (ti_ok.1 h4) hok hk g2 q3
          · exact Gives.of h (by simp only [Instr.lookup, Sem.run_bind, k1, Result.andThen_ok, hgo, Sem.run_pure, c, e1]) e2
          · exact Gives.of h (by simp only [Instr.lookup, Sem.run_bind, k1, Result.andThen_ok, hgo, Sem.run_pure, c, e1, e2]) e3
        · cases g2
      · cases h5
  · cases h2
end
section
variable {P : Program} {T : TT} {A : Nat → Prop} {g : Gh} {st : St} {w : World}
theorem strsEq_eq : ∀ {a b : List AV}, strsEq a b = .ok true → a = b
  | [], [], _ => rfl
  | [], _ :: _, h => by simp [strsEq] at h
  | x :: l, [], h => by cases x <;> simp [strsEq] at h
  | x :: l, y :: m, h => by
    cases x <;> cases y <;> simp only [strsEq] at h <;> (try (cases h; done))
    split at h
    · rename_i e
      rw [beq_iff_eq] at e
      rw [e, strsEq_eq h]
    · cases h
theorem strsEq_bits {g : Gh} (n : Nat) : ∀ {a b : List AV} {x y : List Value}, strsEq a b = .ok true → RL g a x → RL g b y → y.length = x.length ∧ (y.zip x).all (fun (u, v) => Instr.sameBits n u v) = true
  | [], [], _, _, _, hx, hy => by simp only [RL] at hx hy; subst hx hy; exact ⟨rfl, rfl⟩
  | [], _ :: _, _, _, h, _, _ => by simp [strsEq] at h
  | x :: l, [], _, _, h, _, _ => by cases x <;> simp [strsEq] at h
  | x :: l, y :: m, _, _, h, hx, hy => by
    cases x <;> cases y <;> simp only [strsEq] at h <;> (try (cases h; done))
    split at h
    · rename_i e
      rw [beq_iff_eq] at e
      subst e
      simp only [RL] at hx hy
      obtain ⟨u, us, rfl, h1, h2⟩ := hx
      obtain ⟨v, vs, rfl, h3, h4⟩ := hy
      simp only [R] at h1 h3
      subst h1 h3
      obtain ⟨q1, q2⟩ := strsEq_bits n h h2 h4
      refine ⟨by simp [q1], ?_⟩
      simp only [List.zip_cons_cons, List.all_cons, q2, Bool.and_true]
      have := fun s : List UInt8 => bs_beq s s
      cases n <;> simp [Instr.sameBits, this]
    · cases h
theorem keyEq_eq {a b : AV} (h : keyEq a b = .ok true) : a = b := by
  unfold keyEq at h
  split at h
  · simp only [Except.ok.injEq, beq_iff_eq] at h; subst h; rfl
  · split at h
    · rename_i hjk
      subst hjk
      simp only [Except.ok.injEq, beq_iff_eq] at h; subst h; rfl
    · cases h
  · simp only [Except.ok.injEq, beq_iff_eq] at h; subst h; rfl
  · rw [strsEq_eq h]
  · cases h
theorem keyEq_bits {a b : AV} {x y : Value} (h : keyEq a b = .ok true) (hx : R g a x) (hy : R g b y) (n : Nat) : Instr.sameBits (n + 1) y x = true := by
  unfold keyEq at h
  split at h
  · simp only [Except.ok.injEq, beq_iff_eq] at h
    subst h
    simp only [R] at hx hy
    subst hx hy
    simp [Instr.sameBits]
  · split at h
    · rename_i hjk
      subst hjk
      simp only [Except.ok.injEq, beq_iff_eq] at h
      subst h
      simp only [R] at hx hy
      subst hx hy
      simp [Instr.sameBits]
    · cases h
  · simp only [Except.ok.injEq, beq_iff_eq] at h
    subst h
    simp only [R] at hx hy
    subst hx hy
    have := fun s : List UInt8 => bs_beq s s
    simp [Instr.sameBits, this]
  · simp only [R] at hx hy
    obtain ⟨xs, rfl, hx⟩ := hx
    obtain ⟨ys, rfl, hy⟩ := hy
    obtain ⟨q1, q2⟩ := strsEq_bits n h hx hy
    simp only [Instr.sameBits, Bool.and_eq_true]
    exact ⟨by simpa using q1, q2⟩
  · cases h
theorem setHeap_same {w : World} {b : Nat} {o o' : Go.Obj} (h : w.heap[b]? = some o) : ({ w with heap := w.heap.setIfInBounds b o' } : World).heap[b]? = some o' := by
  have := lt_of_heap h
  simp [this]
theorem setHeap_ne {w : World} {b b' : Nat} {o' : Go.Obj} (h : b' ≠ b) : ({ w with heap := w.heap.setIfInBounds b o' } : World).heap[b']? = w.heap[b']? := by
  simp [Array.getElem?_setIfInBounds_ne (fun e => h e.symm)]
theorem not_cells_F (h : Inv T A g st w) {b : Nat} {o : Go.Obj} (hb : w.heap[b]? = some o) (hn : ∀ vs ty fz, o ≠ .cells vs ty fz) (k : Nat) : g.F b k = none := by
  cases hf : g.F b k with
  | none => rfl
  | some v =>
    obtain ⟨vs, ty, fz, h2, _⟩ := cells_of (h.F b k v hf)
    rw [hb] at h2
    cases h2
    exact absurd rfl (hn vs ty fz)
theorem mapUpdate_sound (hT : TOk P T) {C : Caller} {t : TypeId} {m k v r : AV} {mv kv vv : Value} {p : Plan} {fx : Fx} (hp : mapUpdateP T t m k v = .ok p) (hrun : runPlan C st p = .ok (r, fx)) (hm : R g m mv) (hk : R g k kv) (hv : R g v vv) (h : Inv T A g st w) :
    r = undef ∧ GivesU P T A g w (fx.did.app st) (Instr.mapUpdate t mv kv vv) := by
  simp only [mapUpdateP, bind_ok] at hp
  obtain ⟨i, h1, h2⟩ := hp
  have hi := hT t i (ti_ok.1 h1)
  split at h2
  · rename_i kt et hu
    have k1 := und_map hi hu
    simp only [bind_ok] at h2
    obtain ⟨ki, h3, h4⟩ := h2
    split at h4
    · rename_i id hok
      simp only [pure_ok] at h4
      subst h4
      simp only [runPlan, bind_ok, pure_ok] at hrun
      obtain ⟨o, g1, ⟨v', o'⟩, g2, dd, g5, g6⟩ := hrun
      split at g2
      · rename_i es
        simp only [bind_ok, pure_ok, Prod.mk.injEq] at g2
        obtain ⟨es', g3, rfl, rfl⟩ := g2
        simp only [didOf] at g5
        split at g5
        · cases g5
        · rename_i hro
          rw [blt_false] at hro
          simp only [Except.ok.injEq] at g5
          subst g5
          simp only [Prod.mk.injEq] at g6
          obtain ⟨rfl, rfl⟩ := g6
          refine ⟨rfl, ?_⟩
          simp only [R] at hm
          obtain ⟨b, hE, rfl⟩ := hm
          obtain ⟨b', ents, clk, q1, q2, q3, q4⟩ := h.H id _ g1
          have hb : b' = b := by have := q1.symm.trans hE; simpa using this
          subst hb
          have hgo : (getObj b').run P w = .ok (.map ents clk) w := by simp [getObj, Sem.run, q2]
          have hck := checkKey_in (P := P) (w := w) hT (hT _ _ (ti_ok.1 h3)) hok hk false 9998
          have hF := fun kk => not_cells_F h q2 (by simp) kk
          have fin : ∀ ents' clk', REs g es' ents'.toList → (setObj b' (.map ents' clk')).run P w = .ok () { w with heap := w.heap.setIfInBounds b' (.map ents' clk') } ∧
              Inv T A g (st.put id (.map es')) { w with heap := w.heap.setIfInBounds b' (.map ents' clk') } ∧ Kp A g w g { w with heap := w.heap.setIfInBounds b' (.map ents' clk') } := fun ents' clk' hr => by
            refine ⟨by simp [setObj, Sem.run, q2], h.write g1 (o := .map es) (b := b') q1 (.map es') (by simp) (fun _ hb => setHeap_ne hb) (fun kk u hu => by rw [hF kk] at hu; cases hu) q4 (fun b'' hb'' => by
              have : g.E id = some (.blk b'') := hb''
              have := q1.symm.trans this
              simpa using this.symm) ⟨b', ents', clk', q1, setHeap_same q2, hr, q4⟩, Kp.write (h.own id _ b' g1 q1 hro) (by simp) (fun _ hb => setHeap_ne hb)⟩
          obtain ⟨o, hpos, hset⟩ := setEntry_pos g3
          have hfk := findKey_pos (w := w) hT (ti_ok.1 h3) hok hk hpos q3
          cases o with
          | none =>
            simp only at hset
            subst hset
            obtain ⟨f1, f2, f3⟩ := fin (ents.push { key := kv, val := vv, born := clk }) (clk + 1) (by simpa using REs_snoc (e := { key := kv, val := vv, born := clk }) hk hv q3)
            refine ⟨g, _, ?_, f2, f3⟩
            simp only [Instr.mapUpdate, Sem.run_bind, k1, Result.andThen_ok, hgo, hck, hfk, Option.map_none, f1]
          | some j =>
            obtain ⟨a, u, e1, e2, rfl⟩ := hset
            obtain ⟨e, e3, e4, e5⟩ := REs_nth q3 e1
            have hae := keyEq_eq e2
            subst hae
            obtain ⟨f1, f2, f3⟩ := fin (ents.modify j fun e => { e with key := kv, val := vv }) clk (by
              rw [Array.toList_modify]
              exact REs_modify q3 fun a' u' e' h1 h2 => by
                rw [e1] at h1
                cases h1
                exact ⟨hk, hv⟩)
            refine ⟨g, _, ?_, f2, f3⟩
            have hkey : ((ents[j]?).map (·.key)).getD kv = e.key := by
              have : ents[j]? = some e := by simpa using e3
              simp [this]
            have hbits : Instr.sameBits 10000 e.key kv = true := keyEq_bits e2 hk e4 9999
            simp only [Instr.mapUpdate, Sem.run_bind, k1, Result.andThen_ok, hgo, hck, hfk, Option.map_some, hkey, Instr.keyThatStays, hbits, if_true, Sem.run_pure, f1]
      · cases g2
    · cases h4
  · cases h2
theorem delete_sound (hT : TOk P T) {C : Caller} {t ty : TypeId} {ts : Array TypeId} (hts : ts[0]? = some t) {m k r : AV} {mv kv : Value} {p : Plan} {fx : Fx} (hp : deleteP T t m k = .ok p) (hrun : runPlan C st p = .ok (r, fx)) (hm : R g m mv) (hk : R g k kv) (h : Inv T A g st w) :
    Gives P T A g w r (fx.did.app st) (Builtin.delete_ ts ty #[mv, kv]) := by
  simp only [deleteP, bind_ok] at hp
  obtain ⟨i, h1, h2⟩ := hp
  have hi := hT t i (ti_ok.1 h1)
  split at h2
  · rename_i kt et hu
    have k1 := und_map hi hu
    simp only [bind_ok] at h2
    obtain ⟨ki, h3, h4⟩ := h2
    split at h4
    · rename_i id hok
      simp only [pure_ok] at h4
      subst h4
      simp only [runPlan, bind_ok, pure_ok] at hrun
      obtain ⟨o, g1, ⟨v', o'⟩, g2, dd, g5, g6⟩ := hrun
      split at g2
      · rename_i es
        simp only [bind_ok, pure_ok, Prod.mk.injEq] at g2
        obtain ⟨es', g3, rfl, rfl⟩ := g2
        simp only [didOf] at g5
        split at g5
        · cases g5
        · rename_i hro
          rw [blt_false] at hro
          simp only [Except.ok.injEq] at g5
          subst g5
          simp only [Prod.mk.injEq] at g6
          obtain ⟨rfl, rfl⟩ := g6
          simp only [R] at hm
          obtain ⟨b, hE, rfl⟩ := hm
          obtain ⟨b', ents, clk, q1, q2, q3, q4⟩ := h.H id _ g1
          have hb : b' = b := by have := q1.symm.trans hE; simpa using this
          subst hb
          have hgo : (getObj b').run P w = .ok (.map ents clk) w := by simp [getObj, Sem.run, q2]
          have hF := fun kk => not_cells_F h q2 (by simp) kk
          have fin : ∀ ents' clk', REs g es' ents'.toList → (setObj b' (.map ents' clk')).run P w = .ok () { w with heap := w.heap.setIfInBounds b' (.map ents' clk') } ∧
              Inv T A g (st.put id (.map es')) { w with heap := w.heap.setIfInBounds b' (.map ents' clk') } ∧ Kp A g w g { w with heap := w.heap.setIfInBounds b' (.map ents' clk') } := fun ents' clk' hr => by
            refine ⟨by simp [setObj, Sem.run, q2], h.write g1 (o := .map es) (b := b') q1 (.map es') (by simp) (fun _ hb => setHeap_ne hb) (fun kk u hu => by rw [hF kk] at hu; cases hu) q4 (fun b'' hb'' => by
              have : g.E id = some (.blk b'') := hb''
              have := q1.symm.trans this
              simpa using this.symm) ⟨b', ents', clk', q1, setHeap_same q2, hr, q4⟩, Kp.write (h.own id _ b' g1 q1 hro) (by simp) (fun _ hb => setHeap_ne hb)⟩
          obtain ⟨o, hpos, hdel⟩ := delEntry_pos g3
          have hck := checkKey_in (P := P) (w := w) hT (hT _ _ (ti_ok.1 h3)) hok hk ents.isEmpty 9998
          have hfk := findKey_pos (w := w) hT (ti_ok.1 h3) hok hk hpos q3
          cases o with
          | none =>
            simp only at hdel
            subst hdel
            obtain ⟨f1, f2, f3⟩ := fin ents clk q3
            refine ⟨.tuple #[], g, _, ?_, by simp only [R]; exact ⟨_, rfl, by simp [RL]⟩, f2, f3⟩
            simp only [Builtin.delete_, hts, Sem.run_bind, k1, Result.andThen_ok, hgo, hck, hfk, Option.map_none, f1, List.getElem?_toArray, List.getElem?_cons_zero, List.getElem?_cons_succ, Sem.run_pure]
          | some j =>
            obtain ⟨hj, rfl⟩ := hdel
            obtain ⟨f1, f2, f3⟩ := fin (ents.eraseIdxIfInBounds j) clk (by rw [Array.toList_eraseIdxIfInBounds]; exact REs_erase j q3)
            refine ⟨.tuple #[], g, _, ?_, by simp only [R]; exact ⟨_, rfl, by simp [RL]⟩, f2, f3⟩
            simp only [Builtin.delete_, hts, Sem.run_bind, k1, Result.andThen_ok, hgo, hck, hfk, Option.map_some, f1, List.getElem?_toArray, List.getElem?_cons_zero, List.getElem?_cons_succ, Sem.run_pure]
      · cases g2
    · cases h4
  · cases h2
theorem makeMap_sound (t : TypeId) (h : Inv T A g st w) : Gives P T A g w (.mm st.h) (st.new (.map [])).2 (Instr.makeMap t none) := by
  obtain ⟨k1, k2⟩ := h.newObj (.map []) (.map #[] 0) (fun b' hb' => by
    have : (g.setE st.h (.blk w.heap.size)).E st.h = some (.blk b') := hb'
    rw [Gh.setE_same] at this
    simpa using this.symm) ⟨w.heap.size, #[], 0, Gh.setE_same _ _ _, World.heap_alloc_new, by simp [REs], h.M_new (Nat.le_refl _)⟩
  exact ⟨.map (some w.heap.size), _, _, by simp [Instr.makeMap], by simp only [R]; exact ⟨_, Gh.setE_same _ _ _, rfl⟩, k1, k2⟩
theorem range_sound {t : TypeId} {i : TI} (hi : TIOk P t i) (hu : i.und = .str) {s : List UInt8} (h : Inv T A g st w) : Gives P T A g w (.mp st.h 0) (st.new (.sit s 0)).2 (Instr.range t (.string ⟨s.toArray⟩)) := by
  obtain ⟨k1, k2⟩ := h.newObj (.sit s 0) (.stringIter ⟨s.toArray⟩ 0) (fun b' hb' => by
    have : (g.setE st.h (.blk w.heap.size)).E st.h = some (.blk b') := hb'
    rw [Gh.setE_same] at this
    simpa using this.symm) ⟨w.heap.size, Gh.setE_same _ _ _, World.heap_alloc_new⟩
  exact ⟨.pointer (some ⟨w.heap.size, 0, none⟩), _, _, by simp [Instr.range, und_str hi hu], by simp only [R]; exact ⟨_, Gh.setE_same _ _ _, rfl⟩, k1, k2⟩
theorem next_sound {C : Caller} {x v : AV} {xv : Value} {ty : TypeId} {p : Plan} {fx : Fx} (hp : nextP x = .ok p) (hrun : runPlan C st p = .ok (v, fx)) (hx : R g x xv) (h : Inv T A g st w) :
    Gives P T A g w v (fx.did.app st) (Instr.next xv true ty) := by
  unfold nextP at hp
  split at hp
  · rename_i id
    simp only [Except.ok.injEq] at hp
    subst hp
    simp only [runPlan, bind_ok, pure_ok] at hrun
    obtain ⟨o, g1, ⟨v', o'⟩, g2, dd, g5, g6⟩ := hrun
    split at g2
    · rename_i s pos
      simp only [R] at hx
      obtain ⟨b, hE, rfl⟩ := hx
      obtain ⟨b', q1, q2⟩ := h.H id _ g1
      have hb : b' = b := by have := q1.symm.trans hE; simpa using this
      subst hb
      have hgo : (getObj b').run P w = .ok (.stringIter ⟨s.toArray⟩ pos) w := by simp [getObj, Sem.run, q2]
      split at g2
      · rename_i hlt
        rw [blt_true] at hlt
        simp only [Except.ok.injEq, Prod.mk.injEq] at g2
        obtain ⟨rfl, rfl⟩ := g2
        simp only [didOf] at g5
        split at g5
        · cases g5
        · rename_i hro
          rw [blt_false] at hro
          simp only [Except.ok.injEq] at g5
          subst g5
          simp only [Prod.mk.injEq] at g6
          obtain ⟨rfl, rfl⟩ := g6
          have hF := fun kk => not_cells_F h q2 (by simp) kk
          have hM : g.M b' = none := by
            cases hm : g.M b' with
            | none => rfl
            | some ee => have := h.M b' ee.1 ee.2 hm; rw [q2] at this; cases this
          refine ⟨.tuple #[.bool true, goInt pos, .int .i32 (decodeAt s pos).1], g, { w with heap := w.heap.setIfInBounds b' (.stringIter ⟨s.toArray⟩ (pos + (decodeAt s pos).2)) }, ?_, ?_, ?_, ?_⟩
          · have hlt' : pos < (⟨s.toArray⟩ : ByteArray).size := by rw [str_size]; exact hlt
            simp [Instr.next, hgo, hlt', setObj, Sem.run, q2, decodeAt]
          · simp only [R]
            exact ⟨_, rfl, RL_cons (by simp only [R]) (RL_cons (by simp only [R]; rfl) (RL_cons (by simp only [R]) RL_nil))⟩
          · exact h.write g1 (o := .sit s pos) (b := b') q1 _ (by simp) (fun _ hb => setHeap_ne hb) (fun kk u hu => by rw [hF kk] at hu; cases hu) hM (fun b'' hb'' => by
              have : g.E id = some (.blk b'') := hb''
              have := q1.symm.trans this
              simpa using this.symm) ⟨b', q1, setHeap_same q2⟩
          · exact Kp.write (h.own id _ b' g1 q1 hro) (by simp) (fun _ hb => setHeap_ne hb)
      · rename_i hlt
        rw [blt_false] at hlt
        simp only [Except.ok.injEq, Prod.mk.injEq] at g2
        obtain ⟨rfl, rfl⟩ := g2
        simp only [didOf, Except.ok.injEq] at g5
        subst g5
        simp only [Prod.mk.injEq] at g6
        obtain ⟨rfl, rfl⟩ := g6
        have hlt' : ¬ pos < (⟨s.toArray⟩ : ByteArray).size := by rw [str_size]; omega
        refine Gives.of h (x := .tuple #[.bool false]) (by simp [Instr.next, hgo, hlt']) ?_
        simp only [R]
        exact ⟨_, rfl, RL_cons (by simp only [R]) RL_nil⟩
    · cases g2
  · cases hp
end
section
variable {P : Program} {T : TT} {A : Nat → Prop} {g : Gh} {st : St} {w : World}
theorem Inv.remake (h : Inv T A g st w) {k : Nat} {o0 o1 : Obj} {loc loc' : Nat → Option (Nat × Nat)} (b' lo : Nat) (vals : List Value)
    (hk : st.get k = .ok o0) (hE : g.E k = some (.tok loc)) (hloc : ∀ m x, loc m = some x → loc' m = some x)
    (hnone : ∀ o, lo ≤ o → o < lo + vals.length → g.F b' o = none) (hcell : ∀ i v, vals[i]? = some v → w.cell? ⟨b', lo + i, none⟩ = some v)
    (hown : ∀ id o, st.get id = .ok o → id ≠ k → ¬ At g id o b') (hA : A b') (hat : ∀ b, At ((g.addF b' lo vals).setE k (.tok loc')) k o1 b → b = b')
    (ho : Holds T ((g.addF b' lo vals).setE k (.tok loc')) w k o1) (hU : g.C → Unf w b' := by exact fun _ => Unf.newC) :
    Inv T A ((g.addF b' lo vals).setE k (.tok loc')) (st.put k o1) w ∧ Kp A g w ((g.addF b' lo vals).setE k (.tok loc')) w := by
  have hlt := (St.get_ok.1 hk).1
  have le1 : Le g (g.addF b' lo vals) := Le.addF hnone
  have le2 : Le (g.addF b' lo vals) ((g.addF b' lo vals).setE k (.tok loc')) := by
    refine ⟨fun _ _ _ x => x, fun _ _ x => x, fun j b x => ?_, fun j l x => ?_, Iff.rfl⟩
    · have : j ≠ k := fun e => by subst e; have := hE.symm.trans x; cases this
      rw [Gh.setE_ne _ _ this]; exact x
    · by_cases hj : j = k
      · subst hj
        have x' : g.E j = some (.tok l) := x
        have := hE.symm.trans x'
        simp only [Option.some.injEq, Ent.tok.injEq] at this
        subst this
        exact ⟨loc', Gh.setE_same _ _ _, hloc⟩
      · exact ⟨l, by rw [Gh.setE_ne _ _ hj]; exact x, fun _ _ y => y⟩
  have le := le1.trans le2
  refine ⟨⟨?_, h.M, ?_, ?_, ?_, ?_, h.up, ?_⟩, ⟨Nat.le_refl _, fun _ _ => rfl, fun b hb o => Gh.addF_other _ _ _ _ (.inl fun e => hb (e ▸ hA)), fun _ _ => rfl, le, rfl, rfl, rfl⟩⟩
  · intro b o v hv
    by_cases hc : b = b' ∧ lo ≤ o ∧ o < lo + vals.length
    · obtain ⟨rfl, h1, h2⟩ := hc
      have hv' : (g.addF b lo vals).F b o = some v := hv
      simp only [Gh.addF] at hv'
      rw [if_pos ⟨trivial, h1, h2⟩] at hv'
      have := hcell _ _ hv'
      rwa [show lo + (o - lo) = o by omega] at this
    · have hv' : (g.addF b' lo vals).F b o = some v := hv
      rw [Gh.addF_other _ _ _ _ (by omega)] at hv'
      exact h.F b o v hv'
  · intro id hid
    have hid' : st.h ≤ id := hid
    rw [Gh.setE_ne _ _ (by omega)]
    exact h.E id hid'
  · intro id o hid
    by_cases hj : id = k
    · subst hj
      rw [St.get_put_same hlt] at hid
      cases hid; exact ho
    · rw [St.get_put_ne (fun e => hj e.symm)] at hid
      exact Holds_mono (h.H id o hid) le (Gh.setE_ne _ _ hj) fun b hb => ⟨fun _ => Gh.addF_other _ _ _ _ (.inl fun e => hown id o hid hj (e ▸ hb)), rfl⟩
  · intro id id' o o' b h1 h2 a1 a2
    by_cases hi : id = k <;> by_cases hi' : id' = k
    · rw [hi, hi']
    · subst hi
      rw [St.get_put_same hlt] at h1
      cases h1
      rw [St.get_put_ne (fun e => hi' e.symm)] at h2
      rw [At_E (Gh.setE_ne _ _ hi')] at a2
      have := hat b a1; subst this
      exact absurd a2 (hown id' o' h2 hi')
    · subst hi'
      rw [St.get_put_same hlt] at h2
      cases h2
      rw [St.get_put_ne (fun e => hi e.symm)] at h1
      rw [At_E (Gh.setE_ne _ _ hi)] at a1
      have := hat b a2; subst this
      exact absurd a1 (hown id o h1 hi)
    · rw [St.get_put_ne (fun e => hi e.symm)] at h1
      rw [St.get_put_ne (fun e => hi' e.symm)] at h2
      rw [At_E (Gh.setE_ne _ _ hi)] at a1
      rw [At_E (Gh.setE_ne _ _ hi')] at a2
      exact h.D id id' o o' b h1 h2 a1 a2
  · intro id o b h1 a1 hr
    by_cases hi : id = k
    · subst hi
      rw [St.get_put_same hlt] at h1
      cases h1
      have := hat b a1; subst this
      exact hA
    · rw [St.get_put_ne (fun e => hi e.symm)] at h1
      rw [At_E (Gh.setE_ne _ _ hi)] at a1
      exact h.own id o b h1 a1 hr
  · intro c
    refine ⟨fun b o v ha hv => ?_, fun id o b h1 a1 => ?_⟩
    · by_cases hc : b = b' ∧ lo ≤ o ∧ o < lo + vals.length
      · rw [hc.1]; exact (hU c).sof o
      · have hv' : (g.addF b' lo vals).F b o = some v := hv
        rw [Gh.addF_other _ _ _ _ (by omega)] at hv'
        exact (h.C c).1 b o v ha hv'
    · by_cases hi : id = k
      · subst hi
        rw [St.get_put_same hlt] at h1
        cases h1
        rw [hat b a1]; exact hU c
      · rw [St.get_put_ne (fun e => hi e.symm)] at h1
        rw [At_E (Gh.setE_ne _ _ hi)] at a1
        exact (h.C c).2 id o b h1 a1
theorem At_grow {loc : Nat → Option (Nat × Nat)} {k n b cap : Nat} {e : TypeId} {z : Nat} {es : List AV} {b' : Nat} (hE : g.E k = some (.tok loc)) (hl : loc n = some (b, cap)) (h : At g k (.grow n e z es) b') : b' = b := by
  obtain ⟨l, c, q1, q2⟩ := h
  have e1 := q1.symm.trans hE
  simp only [Option.some.injEq, Ent.tok.injEq] at e1
  subst e1
  have e2 := q2.symm.trans hl
  simp only [Option.some.injEq, Prod.mk.injEq] at e2
  exact e2.1
theorem Inv.newGrow (h : Inv T A g st w) {e : TypeId} {i : TI} (hi : T.get e = some i) (h1 : 1 ≤ i.size) {els : List AV} {vals rest : List Value} {cap n : Nat} (hn : els.length ≤ n)
    (hc : ∀ v ∈ els, v.cells.length = i.size) (hb : bares els = true) (hr : RL g (flat els) vals) (ho : ∀ v ∈ vals, v.oneCell' = true) (hsz : vals.length + rest.length = cap * i.size) (hcap : n ≤ cap) :
    ∃ g', Inv T A g' (st.new (.grow n e i.size els)).2 (w.drew.alloc (.cells (vals ++ rest).toArray e)) ∧ Kp A g w g' (w.drew.alloc (.cells (vals ++ rest).toArray e)) ∧
      R g' (.gs st.h i.size n) (.slice (some ⟨w.heap.size, 0, none⟩) n cap) := by
  have hd := h.drew
  have hF : ∀ o, 0 ≤ o → o < 0 + vals.length → g.F w.heap.size o = none := fun o _ _ => h.F_new (Nat.le_refl _) o
  have hvl : vals.length = els.length * i.size := by rw [RL_len hr, flat_length hc]
  have i1 : Inv T A g st (w.drew.alloc (.cells (vals ++ rest).toArray e)) := hd.alloc _
  have i2 : Inv T A (g.addF w.heap.size 0 vals) st (w.drew.alloc (.cells (vals ++ rest).toArray e)) := i1.addF _ 0 vals hF (fun k v hv => by
      have : (w.drew.alloc (.cells (vals ++ rest).toArray e)).heap[w.heap.size]? = some (.cells (vals ++ rest).toArray e) := World.heap_alloc_new (w := w.drew)
      rw [cell_of this]
      have hk : k < vals.length := by
        rcases Nat.lt_or_ge k vals.length with q | q
        · exact q
        · simp [List.getElem?_eq_none q] at hv
      simp only [Nat.zero_add, List.getElem?_toArray]
      rw [List.getElem?_append_left hk]; exact hv) fun id o hid => h.not_new (Nat.le_refl _) id o hid
  have hE0 : (g.addF w.heap.size 0 vals).E st.h = none := h.E _ (Nat.le_refl _)
  have le1 : Le g (g.addF w.heap.size 0 vals) := Le.addF hF
  refine ⟨(g.addF w.heap.size 0 vals).setE st.h (.tok fun m => if m = n then some (w.heap.size, cap) else none), ?_, ?_, ?_⟩
  · refine i2.name (.grow n e i.size els) _ w.heap.size (fun id o hid => ?_) (h.up _ (Nat.le_refl _)) ?_ ?_
    · exact h.not_new (Nat.le_refl _) id o hid
    · exact fun b' hb' => At_grow (Gh.setE_same _ _ _) (by simp; rfl) hb'
    · refine ⟨_, w.heap.size, cap, i, (vals ++ rest).toArray, (0, 0), Gh.setE_same _ _ _, by simp, fun m hm => ?_, hi, h1, hcap, World.heap_alloc_new (w := w.drew), by simpa using hsz, by simp, fun o hof => ?_, rfl, hn, hb, ?_⟩
      · rw [if_neg (by omega)]
      · show (g.addF w.heap.size 0 vals).F w.heap.size o = none
        rw [Gh.addF_other _ _ _ _ (by omega)]
        exact h.F_new (Nat.le_refl _) o
      · refine RAtE_mono (Le.setE hE0) _ _ _ _ ?_
        rw [RAtE_iff]
        refine ⟨hc, RAt_of_vals (RL_mono le1 _ _ hr) fun k x hx => ⟨Gh.addF_at g _ 0 vals k x hx, ho x (List.mem_of_getElem? hx)⟩⟩
  · exact ((Kp.drew A g w).trans (Kp.alloc _ hd)).trans ((Kp.addF (h.up _ (Nat.le_refl _)) hF).trans (Kp.setE hE0))
  · simp only [R]
    exact ⟨_, w.heap.size, cap, Gh.setE_same _ _ _, by simp, rfl, hcap, h1⟩
structure Known (g : Gh) (size c : Nat) (kn : List AV) (news vals : List Value) : Prop where
  pre : ∃ rest, news = vals ++ rest
  len : kn.length ≤ c
  cells : ∀ v ∈ kn, v.cells.length = size
  bare : bares kn = true
  rl : RL g (flat kn) vals
  ones : ∀ v ∈ news, v.oneCell' = true
theorem Known.all {size c : Nat} {new : List AV} {news : List Value} (hn : new.length = c) (hc : ∀ v ∈ new, v.cells.length = size) (hb : bares new = true) (hr : RL g (flat new) news) (ho : ∀ v ∈ news, v.oneCell' = true) : Known g size c new news news :=
  ⟨⟨[], by simp⟩, by omega, hc, hb, hr, ho⟩
theorem Known.none {size c : Nat} {news : List Value} (ho : ∀ v ∈ news, v.oneCell' = true) : Known g size c [] news [] :=
  ⟨⟨news, rfl⟩, by simp, fun _ h => (by cases h), rfl, RL_nil, ho⟩
theorem grow_new {t xt ty e : TypeId} {i : TI} (he : Elem P T t xt e i) {base : Option Addr} {sLen sCap n : Nat} {olds news vals : List Value} {x : Value} {es kn : List AV}
    (hs : Src P i.size (.slice base sLen sCap) sLen olds w) (hx : Src P i.size x n news w) (hg : sCap < sLen + n) (hroom : roomOk (sLen + n) i = true)
    (h : Inv T A g st w) (hn : es.length = sLen) (hc : ∀ v ∈ es, v.cells.length = i.size) (hb : bares es = true) (hr : RL g (flat es) olds) (ho : ∀ v ∈ olds, v.oneCell' = true)
    (hkn : Known g i.size n kn news vals) :
    Gives P T A g w (.gs st.h i.size (sLen + n)) (st.new (.grow (sLen + n) e i.size (es ++ kn))).2 (Builtin.append_ #[t, xt] ty #[.slice base sLen sCap, x]) := by
  obtain ⟨f, z, f1, f2, f3, f4, f5⟩ := he.info
  obtain ⟨d, d1, d2⟩ := he.xt
  obtain ⟨r1, r2, r3⟩ := roomOk_le hroom
  have hfit : Builtin.nextslicecap (sLen + n) sCap * f.bytes ≤ 281474976710656 := growslice_fits hg (by rw [f3]; omega)
  have hrun := run_grow (ty := ty) he.t d1 d2 f1 f4 (by rw [f2]; exact hs) (by rw [f2]; exact hx) hg (by omega) hfit
  have hge := grownCap_ge (w := w) (n := sLen + n) (c := sCap) (e := e)
  have hol : olds.length = sLen * i.size := by rw [RL_len hr, flat_length hc, hn]
  have hnl : news.length = n * i.size := hx.l
  obtain ⟨rest, hrest⟩ := hkn.pre
  have hlen := congrArg List.length hrest
  rw [List.length_append] at hlen
  obtain ⟨g', k1, k2, k3⟩ := h.newGrow (els := es ++ kn) (vals := olds ++ vals) (rest := rest ++ (Builtin.zeroCells z.cells (grownCap w (sLen + n) sCap e - (sLen + n))).toList) (cap := grownCap w (sLen + n) sCap e) (n := sLen + n) he.get r2
    (by rw [List.length_append]; have := hkn.len; omega)
    (fun v hv => by
      rcases List.mem_append.1 hv with hv | hv
      · exact hc v hv
      · exact hkn.cells v hv)
    (by rw [bares_append, hb, hkn.bare]; rfl) (by rw [flat_append]; exact RL_append hr hkn.rl)
    (fun v hv => by
      rcases List.mem_append.1 hv with hv | hv
      · exact ho v hv
      · exact hkn.ones v (by rw [hrest]; exact List.mem_append_left _ hv))
    (by
      rw [List.length_append, List.length_append, zeroCells_length, f5]
      have : (sLen + n) * i.size + (grownCap w (sLen + n) sCap e - (sLen + n)) * i.size = grownCap w (sLen + n) sCap e * i.size := by
        rw [← Nat.add_mul]; congr 1; omega
      rw [Nat.add_mul] at this
      omega) hge
  have hw : olds.toArray ++ news.toArray ++ Builtin.zeroCells z.cells (grownCap w (sLen + n) sCap e - (sLen + n)) = (olds ++ vals ++ (rest ++ (Builtin.zeroCells z.cells (grownCap w (sLen + n) sCap e - (sLen + n))).toList)).toArray := by
    apply Array.ext'; simp [hrest, List.append_assoc]
  rw [hw] at hrun
  exact ⟨_, g', _, hrun, k3, k1, k2⟩
structure Slot (T : TT) (g : Gh) (w : World) (k : Nat) (o : Obj) (e : TypeId) (i : TI) (loc : Nat → Option (Nat × Nat)) (b cap : Nat) (vs : Array Value) (fz : Nat × Nat) (es : List AV) : Prop where
  s_E : g.E k = some (.tok loc)
  s_loc : loc es.length = some (b, cap)
  s_top : ∀ m, es.length < m → loc m = none
  s_get : T.get e = some i
  s_size : 1 ≤ i.size
  s_le : es.length ≤ cap
  s_heap : w.heap[b]? = some (.cells vs e fz)
  s_sz : vs.size = cap * i.size
  s_fz : fz.2 ≤ es.length * i.size
  s_F : ∀ o, es.length * i.size ≤ o → g.F b o = none
  s_bare : bares es = true
  s_atR : RAtE g i.size es b 0
  s_At : At g k o b
  s_uniq : ∀ b', At g k o b' → b' = b
  s_holds : ∀ (w' : World) (vs' : Array Value), w'.heap[b]? = some (.cells vs' e fz) → vs'.size = cap * i.size → Holds T g w' k o
theorem slot_tok {k : Nat} {e : TypeId} {i : TI} {es : List AV} {loc : Nat → Option (Nat × Nat)} {b cap : Nat} (h : Inv T A g st w) (hk : st.get k = .ok (.tok es.length e)) (hi : T.get e = some i)
    (hE : g.E k = some (.tok loc)) (hl : loc es.length = some (b, cap)) (hb : bares es = true) (hes : RAtE g i.size es b 0) : ∃ vs fz, Slot T g w k (.tok es.length e) e i loc b cap vs fz es := by
  obtain ⟨loc2, b2, cap2, i2, vs, fz, q1, q2, q3, q4, q5, q6, q7, q8, q9, q10⟩ := h.H k _ hk
  have e1 := q1.symm.trans hE
  simp only [Option.some.injEq, Ent.tok.injEq] at e1
  subst e1
  have e2 := q2.symm.trans hl
  simp only [Option.some.injEq, Prod.mk.injEq] at e2
  obtain ⟨rfl, rfl⟩ := e2
  have e3 := q4.symm.trans hi
  simp only [Option.some.injEq] at e3
  subst e3
  refine ⟨vs, fz, q1, q2, q3, q4, q5, q6, q7, q8, q9, q10, hb, hes, ⟨loc2, cap2, q1, q2⟩, fun b' hb' => ?_, fun w' vs' h1 h2 => ⟨loc2, b2, cap2, i2, vs', fz, q1, q2, q3, q4, q5, q6, h1, h2, q9, q10⟩⟩
  obtain ⟨l, c, p1, p2⟩ := hb'
  have e1 := p1.symm.trans q1
  simp only [Option.some.injEq, Ent.tok.injEq] at e1
  subst e1
  have e2 := p2.symm.trans q2
  simp only [Option.some.injEq, Prod.mk.injEq] at e2
  exact e2.1
theorem slot_grow {k : Nat} {e : TypeId} {i : TI} {z : Nat} {es : List AV} (h : Inv T A g st w) (hk : st.get k = .ok (.grow es.length e z es)) (hi : T.get e = some i) :
    z = i.size ∧ ∃ loc b cap vs fz, Slot T g w k (.grow es.length e z es) e i loc b cap vs fz es := by
  obtain ⟨loc, b, cap, i2, vs, fz, q1, q2, q3, q4, q5, q6, q7, q8, q9, q10, q11, q12, q13, q14⟩ := h.H k _ hk
  have e3 := q4.symm.trans hi
  simp only [Option.some.injEq] at e3
  subst e3
  subst q11
  exact ⟨rfl, loc, b, cap, vs, fz, q1, q2, q3, q4, q5, q6, q7, q8, q9, q10, q13, q14, ⟨loc, cap, q1, q2⟩, fun b' hb' => At_grow q1 q2 hb',
    fun w' vs' h1 h2 => ⟨loc, b, cap, i2, vs', fz, q1, q2, q3, q4, q5, q6, h1, h2, q9, q10, rfl, q12, q13, q14⟩⟩
theorem grow_old {t xt ty e : TypeId} {i : TI} (he : Elem P T t xt e i) {k b cap n : Nat} {o : Obj} {loc : Nat → Option (Nat × Nat)} {vs : Array Value} {fz : Nat × Nat} {es kn : List AV} {news vals : List Value} {x : Value}
    (hk : st.get k = .ok o) (hro : st.ro ≤ k) (hS : Slot T g w k o e i loc b cap vs fz es)
    (hx : Src P i.size x n news w) (hn0 : 0 < n) (hkn : Known g i.size n kn news vals) (hroom : roomOk (es.length + n) i = true) (h : Inv T A g st w) :
    Gives P T A g w (.gs k i.size (es.length + n)) (st.put k (.grow (es.length + n) e i.size (es ++ kn))) (Builtin.append_ #[t, xt] ty #[.slice (some ⟨b, 0, none⟩) es.length cap, x]) := by
  obtain ⟨f, z, f1, f2, f3, f4, f5⟩ := he.info
  obtain ⟨d, d1, d2⟩ := he.xt
  obtain ⟨r1, r2, r3⟩ := roomOk_le hroom
  obtain ⟨q1, q2, q3, q4, q5, q6, q7, q8, q9, q10, hb0, hes, hat0, huniq, hO⟩ := hS
  have hes' := hes
  rw [RAtE_iff] at hes'
  obtain ⟨hesc, hesr⟩ := hes'
  obtain ⟨olds, o1, o2⟩ := RAt_vals hesr
  have hol : olds.length = es.length * i.size := by rw [RL_len o1, flat_length hesc]
  have hnl : news.length = n * i.size := hx.l
  obtain ⟨rest0, hrest⟩ := hkn.pre
  have hvl0 : vals.length = kn.length * i.size := by rw [RL_len hkn.rl, flat_length hkn.cells]
  have hknl := hkn.len
  have hvn : vals.length ≤ news.length := by rw [hrest, List.length_append]; omega
  have hcall : ∀ v ∈ es ++ kn, v.cells.length = i.size := fun v hv => by
    rcases List.mem_append.1 hv with hv | hv
    · exact hesc v hv
    · exact hkn.cells v hv
  have hball : bares (es ++ kn) = true := by rw [bares_append, hb0, hkn.bare]; rfl
  have hlenA : (es ++ kn).length = es.length + kn.length := List.length_append
  by_cases hcp : es.length + n ≤ cap
  · -- in place
    have hst := run_storeCells_fz (P := P) b (es.length * i.size) e fz news 0 vs w q7 (by
      rw [q8, hnl]; simp only [Nat.add_zero]; rw [← Nat.add_mul]; exact Nat.mul_le_mul_right _ hcp) (by simpa using q9) hkn.ones
    simp only [Nat.add_zero] at hst
    have hrun := run_room (ty := ty) (a := ⟨b, 0, none⟩) he.t d1 d2 f1 (by rw [f2]; exact hx) hcp (by rw [f2, Addr.add_at, Nat.zero_add]; exact hst)
    generalize hrow : vs.toList.take (es.length * i.size) ++ news ++ vs.toList.drop (es.length * i.size + news.length) = row at hrun
    have hrowl : row.length = vs.size := by
      rw [← hrow]
      have : es.length * i.size + news.length ≤ vs.size := by rw [q8, hnl, ← Nat.add_mul]; exact Nat.mul_le_mul_right _ hcp
      simp; omega
    have hpre : ∀ j, j < es.length * i.size → row[j]? = vs[j]? := fun j hj => by
      rw [← hrow, List.append_assoc, List.getElem?_append_left (by simp; have := Nat.mul_le_mul_right i.size q6; omega), List.getElem?_take, if_pos hj]
      simp
    have hmid : ∀ j v, news[j]? = some v → row[es.length * i.size + j]? = some v := fun j v hv => by
      have hj : j < news.length := by
        rcases Nat.lt_or_ge j news.length with q | q
        · exact q
        · simp [List.getElem?_eq_none q] at hv
      have htl : (vs.toList.take (es.length * i.size)).length = es.length * i.size := by
        have h1 : vs.toList.length = cap * i.size := q8
        have h2 : es.length * i.size ≤ cap * i.size := Nat.mul_le_mul_right _ q6
        rw [List.length_take, h1]; omega
      rw [← hrow, List.append_assoc, List.getElem?_append_right (by rw [htl]; omega), htl, List.getElem?_append_left (by omega)]
      rw [show es.length * i.size + j - es.length * i.size = j by omega]; exact hv
    have hheap : (w.setRow b row.toArray).heap[b]? = some (.cells row.toArray e fz) := setRow_heap _ _ _ _ _ _ q7
    have hMn : g.M b = none := by
      cases hm : g.M b with
      | none => rfl
      | some ee =>
        have := h.M b ee.1 ee.2 hm
        rw [q7] at this; cases this
    have i1 : Inv T A g (st.put k o) (w.setRow b row.toArray) := h.write hk hat0 o (setRow_size _ _ _) (fun _ hb => setRow_ne _ _ _ hb)
      (fun j v hv => by
        have hj : j < es.length * i.size := by
          rcases Nat.lt_or_ge j (es.length * i.size) with q | q
          · exact q
          · rw [q10 j q] at hv; cases hv
        have := h.F b j v hv
        rw [cell_of q7] at this
        rw [cell_of hheap, List.getElem?_toArray, hpre j hj]; exact this) hMn huniq
      (hO _ _ hheap (by simpa [hrowl] using q8))
    have kp1 : Kp A g w g (w.setRow b row.toArray) := Kp.write (h.own k _ b hk hat0 hro) (setRow_size _ _ _) (fun _ hb => setRow_ne _ _ _ hb)
    have hk' : (st.put k o).get k = .ok o := St.get_put_same (St.get_ok.1 hk).1
    obtain ⟨i2', kp2⟩ := i1.remake (hU := fun c => (i1.C c).2 k _ b hk' hat0) (o1 := .grow (es.length + n) e i.size (es ++ kn)) (loc' := fun m => if m = es.length + n then some (b, cap) else loc m) b (es.length * i.size) vals hk' q1
      (fun m y hy => by
        by_cases hm : m = es.length + n
        · have := q3 m (by omega); rw [this] at hy; cases hy
        · rw [if_neg hm]; exact hy) (fun o ho _ => q10 o ho)
      (fun j v hv => by
        rw [cell_of hheap, List.getElem?_toArray]
        refine hmid j v ?_
        rw [hrest, List.getElem?_append_left (by
          rcases Nat.lt_or_ge j vals.length with q | q
          · exact q
          · simp [List.getElem?_eq_none q] at hv)]
        exact hv)
      (fun id o' hid hne ha => by
        rw [St.get_put_ne (fun e => hne e.symm)] at hid
        exact hne (h.D id k o' _ b hid hk ha hat0)) (h.own k _ b hk hat0 hro)
      (fun b' hb' => At_grow (Gh.setE_same _ _ _) (by simp; rfl) hb')
      ⟨_, b, cap, i, row.toArray, fz, Gh.setE_same _ _ _, by simp, fun m hm => by rw [if_neg (by omega)]; exact q3 m (by omega), q4, q5, hcp, hheap, by simpa [hrowl] using q8,
        Nat.le_trans q9 (Nat.mul_le_mul_right _ (by rw [hlenA]; omega)), fun o' ho' => by
          show (g.addF b (es.length * i.size) vals).F b o' = none
          rw [hlenA, Nat.add_mul] at ho'
          rw [Gh.addF_other _ _ _ _ (by omega)]
          exact q10 o' (by omega), rfl, by rw [hlenA]; omega, hball, by
          have hle : Le g ((g.addF b (es.length * i.size) vals).setE k (.tok fun m => if m = es.length + n then some (b, cap) else loc m)) := by
            refine (Le.addF fun o' ho' _ => q10 o' ho').trans ⟨fun _ _ _ x => x, fun _ _ x => x, fun j b x => ?_, fun j l x => ?_, Iff.rfl⟩
            · have : j ≠ k := fun e => by subst e; have := q1.symm.trans x; cases this
              rw [Gh.setE_ne _ _ this]; exact x
            · by_cases hj : j = k
              · subst hj
                have x' : g.E j = some (.tok l) := x
                have := q1.symm.trans x'
                simp only [Option.some.injEq, Ent.tok.injEq] at this
                subst this
                exact ⟨_, Gh.setE_same _ _ _, fun m y hy => by
                  by_cases hm : m = es.length + n
                  · have := q3 m (by omega); rw [this] at hy; cases hy
                  · rw [if_neg hm]; exact hy⟩
              · exact ⟨l, by rw [Gh.setE_ne _ _ hj]; exact x, fun _ _ y => y⟩
          rw [RAtE_append]
          refine ⟨RAtE_mono hle _ _ _ _ hes, ?_⟩
          rw [RAtE_iff]
          refine ⟨hkn.cells, RAt_of_vals (RL_mono hle _ _ hkn.rl) fun j v hv => ⟨?_, hkn.ones v (by rw [hrest]; exact List.mem_append_left _ (List.mem_of_getElem? hv))⟩⟩
          rw [Nat.zero_add]
          exact Gh.addF_at g b (es.length * i.size) vals j v hv⟩
    have hput : (st.put k o).put k (.grow (es.length + n) e i.size (es ++ kn)) = st.put k (.grow (es.length + n) e i.size (es ++ kn)) := by
      simp only [St.put, Tr.put, Tr.set_set]
    rw [hput] at i2'
    refine ⟨_, _, _, hrun, ?_, i2', kp1.trans kp2⟩
    simp only [R]
    exact ⟨_, b, cap, Gh.setE_same _ _ _, by simp, rfl, hcp, q5⟩
  · -- in a new array
    have hadd : ∀ w' : World, (∀ b o, w'.cell? ⟨b, o, none⟩ = w.cell? ⟨b, o, none⟩) → (Builtin.firstCells i.size es.length (.slice (some ⟨b, 0, none⟩) es.length cap)).run P w' = .ok olds.toArray w' := fun w' hw' =>
      run_firstCells_some (P := P) w' i.size es.length ⟨b, 0, none⟩ es.length cap olds hol (fun j v hv => by
        rw [Addr.add_at, hw']
        exact h.F _ _ _ (o2 j v hv).1)
    have hs : Src P i.size (.slice (some ⟨b, 0, none⟩) es.length cap) es.length olds w := ⟨by simp [Builtin.lenOf], hadd w fun _ _ => rfl, hadd w.drew fun _ _ => rfl, hol⟩
    have hg : cap < es.length + n := by omega
    have hfit : Builtin.nextslicecap (es.length + n) cap * f.bytes ≤ 281474976710656 := growslice_fits hg (by rw [f3]; omega)
    have hrun := run_grow (ty := ty) he.t d1 d2 f1 f4 (by rw [f2]; exact hs) (by rw [f2]; exact hx) hg (by omega) hfit
    have hge := grownCap_ge (w := w) (n := es.length + n) (c := cap) (e := e)
    generalize grownCap w (es.length + n) cap e = cap3 at hrun hge
    have hw : olds.toArray ++ news.toArray ++ Builtin.zeroCells z.cells (cap3 - (es.length + n)) = (olds ++ vals ++ (rest0 ++ (Builtin.zeroCells z.cells (cap3 - (es.length + n))).toList)).toArray := by
      apply Array.ext'; simp [hrest, List.append_assoc]
    rw [hw] at hrun
    have hrl : (rest0 ++ (Builtin.zeroCells z.cells (cap3 - (es.length + n))).toList).length + (olds ++ vals).length = cap3 * i.size := by
      have hlen := congrArg List.length hrest
      rw [List.length_append] at hlen
      rw [List.length_append, List.length_append, zeroCells_length, f5]
      have : (es.length + n) * i.size + (cap3 - (es.length + n)) * i.size = cap3 * i.size := by
        rw [← Nat.add_mul]; congr 1; omega
      rw [Nat.add_mul] at this
      omega
    generalize rest0 ++ (Builtin.zeroCells z.cells (cap3 - (es.length + n))).toList = rest at hrun hrl
    have hd := h.drew
    have i1 : Inv T A g st (w.drew.alloc (.cells (olds ++ vals ++ rest).toArray e)) := hd.alloc _
    have kp1 : Kp A g w g (w.drew.alloc (.cells (olds ++ vals ++ rest).toArray e)) := (Kp.drew A g w).trans (Kp.alloc _ hd)
    have hheap : (w.drew.alloc (.cells (olds ++ vals ++ rest).toArray e)).heap[w.heap.size]? = some (.cells (olds ++ vals ++ rest).toArray e) := World.heap_alloc_new (w := w.drew)
    have hvl : (olds ++ vals).length = (es ++ kn).length * i.size := by rw [List.length_append, hlenA, hol, hvl0, Nat.add_mul]
    have hones : ∀ v ∈ olds ++ vals, v.oneCell' = true := fun v hv => by
      rcases List.mem_append.1 hv with hm | hm
      · obtain ⟨jj, hjj⟩ := List.getElem?_of_mem hm
        exact (o2 jj v hjj).2
      · exact hkn.ones v (by rw [hrest]; exact List.mem_append_left _ hm)
    have hle : Le g ((g.addF w.heap.size 0 (olds ++ vals)).setE k (.tok fun m => if m = es.length + n then some (w.heap.size, cap3) else loc m)) := by
      refine (Le.addF fun o' _ _ => h.F_new (Nat.le_refl _) o').trans ⟨fun _ _ _ x => x, fun _ _ x => x, fun j b x => ?_, fun j l x => ?_, Iff.rfl⟩
      · have : j ≠ k := fun e => by subst e; have := q1.symm.trans x; cases this
        rw [Gh.setE_ne _ _ this]; exact x
      · by_cases hj : j = k
        · subst hj
          have x' : g.E j = some (.tok l) := x
          have := q1.symm.trans x'
          simp only [Option.some.injEq, Ent.tok.injEq] at this
          subst this
          exact ⟨_, Gh.setE_same _ _ _, fun m y hy => by
            by_cases hm : m = es.length + n
            · have := q3 m (by omega); rw [this] at hy; cases hy
            · rw [if_neg hm]; exact hy⟩
        · exact ⟨l, by rw [Gh.setE_ne _ _ hj]; exact x, fun _ _ y => y⟩
    obtain ⟨i2', kp2⟩ := i1.remake (o1 := .grow (es.length + n) e i.size (es ++ kn)) (loc' := fun m => if m = es.length + n then some (w.heap.size, cap3) else loc m) w.heap.size 0 (olds ++ vals) hk q1
      (fun m y hy => by
        by_cases hm : m = es.length + n
        · have := q3 m (by omega); rw [this] at hy; cases hy
        · rw [if_neg hm]; exact hy) (fun o' _ _ => h.F_new (Nat.le_refl _) o')
      (fun j v hv => by
        have hj : j < (olds ++ vals).length := by
          rcases Nat.lt_or_ge j (olds ++ vals).length with q | q
          · exact q
          · rw [List.getElem?_eq_none q] at hv; cases hv
        rw [cell_of hheap, List.getElem?_toArray, Nat.zero_add, List.getElem?_append_left hj]; exact hv)
      (fun id o' hid _ => h.not_new (Nat.le_refl _) id o' hid) (h.up _ (Nat.le_refl _))
      (fun b' hb' => At_grow (Gh.setE_same _ _ _) (by simp; rfl) hb')
      ⟨_, w.heap.size, cap3, i, (olds ++ vals ++ rest).toArray, (0, 0), Gh.setE_same _ _ _, by simp, fun m hm => by rw [if_neg (by omega)]; exact q3 m (by omega), q4, q5, hge, hheap, by
          simp only [List.size_toArray]
          rw [List.length_append]; omega, by simp, fun o' ho' => by
          show (g.addF w.heap.size 0 (olds ++ vals)).F w.heap.size o' = none
          rw [Gh.addF_other _ _ _ _ (by omega)]
          exact h.F_new (Nat.le_refl _) o', rfl, by rw [hlenA]; omega, hball, by
          rw [RAtE_iff]
          refine ⟨hcall, ?_⟩
          rw [flat_append]
          exact RAt_of_vals (RL_mono hle _ _ (RL_append o1 hkn.rl)) fun j v hv => ⟨Gh.addF_at g w.heap.size 0 (olds ++ vals) j v hv, hones v (List.mem_of_getElem? hv)⟩⟩
    refine ⟨_, _, _, hrun, ?_, i2', kp1.trans kp2⟩
    simp only [R]
    exact ⟨_, w.heap.size, cap3, Gh.setE_same _ _ _, by simp, rfl, hge, q5⟩
end
section
variable {P : Program} {T : TT} {A : Nat → Prop} {g : Gh} {st : St} {w : World}
theorem gsPut_sound {C : Caller} {t xt ty e : TypeId} {i : TI} (he : Elem P T t xt e i) {s r : AV} {sv x : Value} {c : Nat} {kn : List AV} {news vals : List Value} {p : Plan} {fx : Fx}
    (hp : gsPutP i e s c kn = .ok p) (hrun : runPlan C st p = .ok (r, fx)) (hs : R g s sv) (hx : Src P i.size x c news w) (hc0 : 0 < c) (hkn : Known g i.size c kn news vals) (h : Inv T A g st w) :
    Gives P T A g w r (fx.did.app st) (Builtin.append_ #[t, xt] ty #[sv, x]) := by
  unfold gsPutP at hp
  split at hp
  · -- to nil
    split at hp
    · rename_i hroom
      cases hp
      simp only [runPlan, Except.ok.injEq, Prod.mk.injEq] at hrun
      obtain ⟨rfl, rfl⟩ := hrun
      simp only [R] at hs
      subst hs
      have hnil : Src P i.size (.slice none 0 0) 0 [] w := ⟨by simp [Builtin.lenOf], by simp [Builtin.firstCells], by simp [Builtin.firstCells], by simp⟩
      have := grow_new (ty := ty) (es := []) he hnil hx (by omega) (by rw [Nat.zero_add]; exact hroom) h rfl (fun _ h => by cases h) rfl RL_nil (fun _ h => by cases h) hkn
      rw [Nat.zero_add] at this
      exact this
    · cases hp
  · rename_i z es
    split at hp
    · rename_i hroom
      simp only [Bool.and_eq_true] at hroom
      obtain ⟨hroom, hzz⟩ := hroom
      have hzz := Nat.eq_of_beq_eq_true hzz
      subst hzz
      cases hp
      simp only [runPlan, Except.ok.injEq, Prod.mk.injEq] at hrun
      obtain ⟨rfl, rfl⟩ := hrun
      simp only [R] at hs
      obtain ⟨hb0, b, o, cap, rfl, hcap, hz1, hes, hperm⟩ := hs
      have hcap' : cap = es.length := hperm
      subst hcap'
      have hes' := hes
      rw [RAtE_iff] at hes'
      obtain ⟨xs, x1, x2⟩ := RAt_vals hes'.2
      have hl : xs.length = es.length * i.size := by rw [RL_len x1, flat_length hes'.1]
      have hfirst : ∀ w' : World, (∀ b o, w'.cell? ⟨b, o, none⟩ = w.cell? ⟨b, o, none⟩) → (Builtin.firstCells i.size es.length (.slice (some ⟨b, o, none⟩) es.length es.length)).run P w' = .ok xs.toArray w' := fun w' hw' =>
        run_firstCells_some (P := P) w' i.size es.length ⟨b, o, none⟩ es.length es.length xs hl (fun j v hv => by
          rw [Addr.add_at, hw']
          exact h.F _ _ _ (x2 j v hv).1)
      have hsrc : Src P i.size (.slice (some ⟨b, o, none⟩) es.length es.length) es.length xs w := ⟨by simp [Builtin.lenOf], hfirst w fun _ _ => rfl, hfirst w.drew fun _ _ => rfl, hl⟩
      exact grow_new (ty := ty) he hsrc hx (by omega) hroom h rfl hes'.1 hb0 x1 (fun v hv => by
        obtain ⟨j, hj⟩ := List.getElem?_of_mem hv
        exact (x2 j v hj).2) hkn
    · cases hp
  · rename_i z es k
    split at hp
    · rename_i hroom
      simp only [Bool.and_eq_true] at hroom
      obtain ⟨hroom, hzz⟩ := hroom
      have hzz := Nat.eq_of_beq_eq_true hzz
      subst hzz
      cases hp
      simp only [runPlan, bind_ok, pure_ok] at hrun
      obtain ⟨ob, h1, ⟨v', o'⟩, h2, dd, h5, h6⟩ := hrun
      split at h2
      · rename_i n e'
        split at h2
        · rename_i hcond
          simp only [Bool.and_eq_true] at hcond
          have hn := Nat.eq_of_beq_eq_true hcond.1
          have he' := Nat.eq_of_beq_eq_true hcond.2
          subst hn he'
          cases h2
          simp only [didOf] at h5
          split at h5
          · cases h5
          · rename_i hro
            cases h5
            cases h6
            rw [blt_false] at hro
            simp only [R] at hs
            obtain ⟨hb0, b, o, cap, rfl, hcap, hz1, hes, rfl, loc, hE, hl⟩ := hs
            obtain ⟨vs, fz, hS⟩ := slot_tok h h1 he.get hE hl hb0 hes
            exact grow_old (ty := ty) he h1 (by omega) hS hx hc0 hkn hroom h
        · cases h2
      · cases h2
    · cases hp
  · rename_i k z n
    split at hp
    · rename_i hroom
      simp only [Bool.and_eq_true] at hroom
      obtain ⟨hroom, hzz⟩ := hroom
      have hzz := Nat.eq_of_beq_eq_true hzz
      subst hzz
      cases hp
      simp only [runPlan, bind_ok, pure_ok] at hrun
      obtain ⟨ob, h1, ⟨v', o'⟩, h2, dd, h5, h6⟩ := hrun
      split at h2
      · rename_i m e' z' es
        split at h2
        · rename_i hcond
          simp only [Bool.and_eq_true] at hcond
          have hm := Nat.eq_of_beq_eq_true hcond.1.1
          have hn := Nat.eq_of_beq_eq_true hcond.1.2
          have he' := Nat.eq_of_beq_eq_true hcond.2.1
          subst hm hn he'
          cases h2
          simp only [didOf] at h5
          split at h5
          · cases h5
          · rename_i hro
            cases h5
            cases h6
            rw [blt_false] at hro
            simp only [R] at hs
            obtain ⟨loc', b', cap', hE, hl, rfl, hcap, hz1⟩ := hs
            obtain ⟨rfl, loc, b, cap, vs, fz, hS⟩ := slot_grow h h1 he.get
            have e1 := hS.s_E.symm.trans hE
            simp only [Option.some.injEq, Ent.tok.injEq] at e1
            subst e1
            have e2 := hS.s_loc.symm.trans hl
            simp only [Option.some.injEq, Prod.mk.injEq] at e2
            obtain ⟨rfl, rfl⟩ := e2
            exact grow_old (ty := ty) he h1 (by omega) hS hx hc0 hkn hroom h
        · cases h2
      · cases h2
    · cases hp
  · cases hp
theorem gsAppend_sound {C : Caller} {t xt ty e : TypeId} {i : TI} (he : Elem P T t xt e i) {s x r : AV} {sv xv : Value} {new : List AV} {p : Plan} {fx : Fx} (hev : elemsV x = some new)
    (hp : gsAppendP i e s new = .ok p) (hrun : runPlan C st p = .ok (r, fx)) (hs : R g s sv) (hx : R g x xv) (h : Inv T A g st w) :
    Gives P T A g w r (fx.did.app st) (Builtin.append_ #[t, xt] ty #[sv, xv]) := by
  unfold gsAppendP at hp
  split at hp
  · cases hp
  · rename_i v l
    simp only [bind_ok] at hp
    obtain ⟨new', hf, hp⟩ := hp
    split at hp
    · cases hp
    · rename_i hall
      have hc := all_len hall
      obtain ⟨news, s1, s2, s3, s4, s5⟩ := src_sound (P := P) hx hev hf hc (by simp) h
      have hpos : 0 < new'.length := by rw [s5]; simp
      split at hp
      · exact gsPut_sound he hp hrun hs s1 hpos (Known.none s4) h
      · exact gsPut_sound he hp hrun hs s1 hpos (Known.all rfl hc s3 s2 s4) h
theorem part_new {t xt ty e : TypeId} {i : TI} (he : Elem P T t xt e i) {base : Option Addr} {n : Nat} {news : List Value} {x : Value} {els : List AV}
    (hs : Src P i.size (.slice base 0 0) 0 [] w) (hx : Src P i.size x n news w) (hg : 0 < n) (hroom : roomOk n i = true)
    (h : Inv T A g st w) (hr : RL g (flat els) news) (ho : ∀ v ∈ news, v.oneCell' = true) :
    Gives P T A g w (.ms st.h 0 i.size n 0) (st.new (.cells (1000000 + e) (flat els))).2 (Builtin.append_ #[t, xt] ty #[.slice base 0 0, x]) := by
  obtain ⟨f, z, f1, f2, f3, f4, f5⟩ := he.info
  obtain ⟨d, d1, d2⟩ := he.xt
  obtain ⟨r1, r2, r3⟩ := roomOk_le hroom
  have hfit : Builtin.nextslicecap (0 + n) 0 * f.bytes ≤ 281474976710656 := growslice_fits (by omega) (by rw [Nat.zero_add, f3]; omega)
  have hrun := run_grow (ty := ty) he.t d1 d2 f1 f4 (by rw [f2]; exact hs) (by rw [f2]; exact hx) (by omega) (by omega) hfit
  have hge := grownCap_ge (w := w) (n := 0 + n) (c := 0) (e := e)
  have hE : g.E st.h = none := h.E _ (Nat.le_refl _)
  have hle : Le g (g.setE st.h (.blk w.heap.size)) := Le.setE hE
  obtain ⟨k1, k2⟩ := h.drew.newObj (.cells (1000000 + e) (flat els)) (.cells (news.toArray ++ Builtin.zeroCells z.cells (grownCap w (0 + n) 0 e - (0 + n))) e) (fun b' hb' => by
    have : (g.setE st.h (.blk w.heap.size)).E st.h = some (.blk b') := hb'
    rw [Gh.setE_same] at this
    simpa using this.symm) ⟨w.heap.size, news.toArray, Builtin.zeroCells z.cells (grownCap w (0 + n) 0 e - (0 + n)), e, Gh.setE_same _ _ _, World.heap_alloc_new (w := w.drew), by simpa using RL_mono hle _ _ hr, by simpa using ho, fun o => h.F_new (Nat.le_refl _) o, fun hlt => absurd hlt (Nat.not_lt.2 (Nat.le_add_right _ _))⟩
  have hnil : ([] : List Value).toArray ++ news.toArray = news.toArray := by simp
  rw [hnil] at hrun
  refine ⟨_, g.setE st.h (.blk w.heap.size), _, hrun, ?_, k1, (Kp.drew A g w).trans k2⟩
  simp only [R]
  exact ⟨w.heap.size, 0, Gh.setE_same _ _ _, grownCap w (0 + n) 0 e, by simp, by omega, r2, fun _ => rfl, .inr trivial⟩
theorem msAppend_sound {C : Caller} {t xt ty e : TypeId} {i : TI} (he : Elem P T t xt e i) {s x r : AV} {sv xv : Value} {new : List AV} {p : Plan} {fx : Fx} (hev : elemsV x = some new)
    (hp : msAppendP i e s new = .ok p) (hrun : runPlan C st p = .ok (r, fx)) (hs : R g s sv) (hx : R g x xv) (h : Inv T A g st w) :
    Gives P T A g w r (fx.did.app st) (Builtin.append_ #[t, xt] ty #[sv, xv]) := by
  unfold msAppendP at hp
  split at hp
  · exact append_sound he hev hp hrun hs hx h
  · rename_i v l
    simp only [bind_ok] at hp
    obtain ⟨new', hf, hp⟩ := hp
    split at hp
    · cases hp
    · rename_i hall
      simp only [Bool.and_eq_true] at hall
      have hc := all_len hall.1
      obtain ⟨news, s1, s2, s3, s4, s5⟩ := src_sound (P := P) hx hev hf hc (by simp) h
      have hpos : 0 < new'.length := by rw [s5]; simp
      split at hp
      · simp only [Except.ok.injEq] at hp
        subst hp
        simp only [runPlan, Except.ok.injEq, Prod.mk.injEq] at hrun
        obtain ⟨rfl, rfl⟩ := hrun
        simp only [R] at hs
        subst hs
        exact part_new he ⟨by simp [Builtin.lenOf], by simp [Builtin.firstCells], by simp [Builtin.firstCells], by simp⟩ s1 hpos hall.2 h s2 s4
      · simp only [Except.ok.injEq] at hp
        subst hp
        simp only [runPlan, Except.ok.injEq, Prod.mk.injEq] at hrun
        obtain ⟨rfl, rfl⟩ := hrun
        simp only [R] at hs
        obtain ⟨a, rfl⟩ := hs
        exact part_new he ⟨by simp [Builtin.lenOf], by simp [Builtin.firstCells, loadCells, loadCellsFrom], by simp [Builtin.firstCells, loadCells, loadCellsFrom], by simp⟩ s1 hpos hall.2 h s2 s4
      · simp only [Except.ok.injEq] at hp
        subst hp
        simp only [runPlan, Except.ok.injEq, Prod.mk.injEq] at hrun
        obtain ⟨rfl, rfl⟩ := hrun
        simp only [R] at hs
        obtain ⟨_, b, o, cap, rfl, _, _, _, hp⟩ := hs
        simp only [permR, List.length_nil] at hp
        subst hp
        exact part_new he ⟨by simp [Builtin.lenOf], by simp [Builtin.firstCells, loadCells, loadCellsFrom], by simp [Builtin.firstCells, loadCells, loadCellsFrom], by simp⟩ s1 hpos hall.2 h s2 s4
      · cases hp
theorem gsIndex_sound (hT : TOk P T) {C : Caller} {t : TypeId} {k z n : Nat} {i r : AV} {sv iv : Value} {p : Plan} {fx : Fx} (hp : gsIndexP T t k z n i = .ok p) (hrun : runPlan C st p = .ok (r, fx))
    (hs : R g (.gs k z n) sv) (hy : R g i iv) (h : Inv T A g st w) : Gives P T A g w r (fx.did.app st) (Instr.indexAt t sv iv) := by
  simp only [gsIndexP, bind_ok] at hp
  obtain ⟨j, hj, j', hj', it, h1, h2⟩ := hp
  obtain ⟨kd, rfl⟩ := asInt_R hj hy
  obtain ⟨rfl, hlt⟩ := inside_ok hj'
  have hit := hT t it (ti_ok.1 h1)
  split at h2
  · rename_i e hund
    have k1 := und_slice hit hund
    simp only [bind_ok] at h2
    obtain ⟨ie, h3, h4⟩ := h2
    have hie := hT _ ie (ti_ok.1 h3)
    split at h4
    · rename_i hz
      have hz := Nat.eq_of_beq_eq_true hz
      cases h4
      simp only [readP, runPlan, bind_ok, pure_ok] at hrun
      obtain ⟨ob, h5, ⟨v', o'⟩, ⟨v2, h6, h7⟩, dd, h8, h9⟩ := hrun
      cases h7
      simp only [didOf, Except.ok.injEq] at h8
      subst h8
      cases h9
      simp only [R] at hs
      obtain ⟨loc, b, cap, hE, hl, rfl, hcap, hz1⟩ := hs
      split at h6
      · rename_i m e' z' es
        split at h6
        · rename_i hcond
          simp only [Bool.and_eq_true] at hcond
          have hm := Nat.eq_of_beq_eq_true hcond.1
          have hzz := Nat.eq_of_beq_eq_true hcond.2
          subst hm hzz
          obtain ⟨loc2, b2, cap2, i2, vs, fz, q1, q2, q3, q4, q5, q6, q7, q8, q9, q10, q11, q12, q13, q14⟩ := h.H k _ h5
          have e1 := q1.symm.trans hE
          simp only [Option.some.injEq, Ent.tok.injEq] at e1
          subst e1
          have e2 := q2.symm.trans hl
          simp only [Option.some.injEq, Prod.mk.injEq] at e2
          obtain ⟨rfl, rfl⟩ := e2
          split at h6
          · simp only [bind_ok, pure_ok] at h6
            obtain ⟨u, h7, rfl⟩ := h6
            obtain ⟨d1, d2⟩ := RAtE_nth q14 h7
            refine Gives.of h (x := .pointer (some ⟨b2, 0 + j' * z', none⟩)) ?_ ?_
            · simp [Instr.indexAt, asIntOf, k1, hie.run_size, Addr.add_at, hz]
              intro hh; omega
            · simp only [R]
              exact ⟨bares_cells (bares_nth q13 h7), b2, _, rfl, d2⟩
          · cases h6
            refine Gives.of h (x := .pointer (some ⟨b2, 0 + j' * z', none⟩)) ?_ ?_
            · simp [Instr.indexAt, asIntOf, k1, hie.run_size, Addr.add_at, hz]
              intro hh; omega
            · simp only [R]
              exact ⟨loc2, b2, cap2, q1, q2, by rw [Nat.zero_add]⟩
        · cases h6
      · rename_i m e' z' cs
        split at h6
        · rename_i hcond
          simp only [Bool.and_eq_true] at hcond
          have hm := Nat.eq_of_beq_eq_true hcond.1
          have hzz := Nat.eq_of_beq_eq_true hcond.2
          subst hm hzz
          cases h6
          refine Gives.of h (x := .pointer (some ⟨b, 0 + j' * z', none⟩)) ?_ ?_
          · simp [Instr.indexAt, asIntOf, k1, hie.run_size, Addr.add_at, hz]
            intro hh; omega
          · simp only [R]
            exact ⟨loc, b, cap, hE, hl, by rw [Nat.zero_add]⟩
        · cases h6
      · cases h6
    · cases h4
  · cases h2
theorem gpStore_sound {C : Caller} {t : TypeId} {i : TI} (hi : TIOk P t i) {k m off : Nat} {v r : AV} {x y : Value} {p : Plan} {fx : Fx} (hp : gpStoreP i k m off v = .ok p) (hrun : runPlan C st p = .ok (r, fx))
    (hx : R g (.gp k m off) x) (hy : R g v y) (h : Inv T A g st w) : r = undef ∧ GivesU P T A g w (fx.did.app st) (Instr.storeAt t x y) := by
  unfold gpStoreP at hp
  split at hp
  · rename_i hc
    simp only [Bool.and_eq_true] at hc
    have hlen := Nat.eq_of_beq_eq_true hc.1
    simp only [bind_ok, pure_ok] at hp
    obtain ⟨v', hf, rfl⟩ := hp
    simp only [runPlan, bind_ok, pure_ok] at hrun
    obtain ⟨ob, h1, ⟨u, o'⟩, h2, dd, h5, h6⟩ := hrun
    split at h2
    · rename_i n e z es
      split at h2
      · rename_i hcond
        simp only [Bool.and_eq_true] at hcond
        have c1 := Nat.eq_of_beq_eq_true hcond.1.1
        have c2 := Nat.eq_of_beq_eq_true hcond.1.2
        have c3 := Nat.eq_of_beq_eq_true hcond.2.1
        have c4 := Nat.eq_of_beq_eq_true hcond.2.2
        subst c1 c3
        cases h2
        simp only [didOf] at h5
        split at h5
        · cases h5
        · rename_i hro
          cases h5
          cases h6
          rw [blt_false] at hro
          refine ⟨rfl, ?_⟩
          simp only [R] at hx
          obtain ⟨loc, b, cap, hE, hl, rfl⟩ := hx
          obtain ⟨loc2, b2, cap2, i2, vs, fz, q1, q2, q3, q4, q5, q6, q7, q8, q9, q10, q11, q12, q13, q14⟩ := h.H k _ h1
          have e1 := q1.symm.trans hE
          simp only [Option.some.injEq, Ent.tok.injEq] at e1
          subst e1
          have e2 := q2.symm.trans hl
          simp only [Option.some.injEq, Prod.mk.injEq] at e2
          obtain ⟨rfl, rfl⟩ := e2
          subst q11
          have hyc := R_cells hy hc.2
          obtain ⟨ys, hys⟩ : ∃ ys, y.cells.toList = ys := ⟨_, rfl⟩
          rw [hys] at hyc
          have hyl := RL_len hyc
          have hyo := ones_RL hc.2 hyc
          obtain ⟨fc1, fc2, fc3⟩ := fit_cells hf hyc
          have hbnd : es.length * i2.size + ys.length ≤ vs.size := by
            rw [q8, hyl, hlen, ← c4]
            have := Nat.mul_le_mul_right i2.size (show es.length + 1 ≤ cap2 by omega)
            rw [Nat.add_mul, Nat.one_mul] at this
            exact this
          have hat0 : At g k (.grow n e i2.size es) b2 := ⟨loc2, cap2, q1, q2⟩
          have hst := run_storeCells_fz (P := P) b2 (es.length * i2.size) e fz ys 0 vs w q7 (by simpa using hbnd) (by simpa using q9) hyo
          simp only [Nat.add_zero] at hst
          generalize hrow : vs.toList.take (es.length * i2.size) ++ ys ++ vs.toList.drop (es.length * i2.size + ys.length) = row at hst
          have hrowl : row.length = vs.size := by
            rw [← hrow]; simp; omega
          have hpre : ∀ j, j < es.length * i2.size → row[j]? = vs[j]? := fun j hj => by
            rw [← hrow, List.append_assoc, List.getElem?_append_left (by simp; omega), List.getElem?_take, if_pos hj]
            simp
          have hmid : ∀ j v, ys[j]? = some v → row[es.length * i2.size + j]? = some v := fun j v hv => by
            have hj : j < ys.length := by
              rcases Nat.lt_or_ge j ys.length with q | q
              · exact q
              · simp [List.getElem?_eq_none q] at hv
            have htl : (vs.toList.take (es.length * i2.size)).length = es.length * i2.size := by
              have hvs : vs.toList.length = vs.size := rfl
              rw [List.length_take, hvs]; omega
            rw [← hrow, List.append_assoc, List.getElem?_append_right (by rw [htl]; omega), htl, List.getElem?_append_left (by omega)]
            rw [show es.length * i2.size + j - es.length * i2.size = j by omega]; exact hv
          have hheap : (w.setRow b2 row.toArray).heap[b2]? = some (.cells row.toArray e fz) := setRow_heap _ _ _ _ _ _ q7
          have hMn : g.M b2 = none := by
            cases hm : g.M b2 with
            | none => rfl
            | some ee =>
              have := h.M b2 ee.1 ee.2 hm
              rw [q7] at this; cases this
          have i1 : Inv T A g (st.put k (.grow n e i2.size es)) (w.setRow b2 row.toArray) := h.write h1 hat0 (.grow n e i2.size es) (setRow_size _ _ _) (fun _ hb => setRow_ne _ _ _ hb)
            (fun j v hv => by
              have hj : j < es.length * i2.size := by
                rcases Nat.lt_or_ge j (es.length * i2.size) with q | q
                · exact q
                · rw [q10 j q] at hv; cases hv
              have := h.F b2 j v hv
              rw [cell_of q7] at this
              rw [cell_of hheap, List.getElem?_toArray, hpre j hj]; exact this) hMn (fun b' hb' => At_grow q1 q2 hb')
            ⟨loc2, b2, cap2, i2, row.toArray, fz, q1, q2, q3, q4, q5, q6, hheap, by simpa [hrowl] using q8, q9, q10, rfl, q12, q13, q14⟩
          have kp1 : Kp A g w g (w.setRow b2 row.toArray) := Kp.write (h.own k _ b2 h1 hat0 (by omega)) (setRow_size _ _ _) (fun _ hb => setRow_ne _ _ _ hb)
          have hk' : (st.put k (.grow n e i2.size es)).get k = .ok (.grow n e i2.size es) := St.get_put_same (St.get_ok.1 h1).1
          have hle : Le g ((g.addF b2 (es.length * i2.size) ys).setE k (.tok loc2)) := by
            refine (Le.addF fun o' ho' _ => q10 o' ho').trans ⟨fun _ _ _ x => x, fun _ _ x => x, fun j b x => ?_, fun j l x => ?_, Iff.rfl⟩
            · have : j ≠ k := fun e => by subst e; have := q1.symm.trans x; cases this
              rw [Gh.setE_ne _ _ this]; exact x
            · by_cases hj : j = k
              · subst hj
                have x' : g.E j = some (.tok l) := x
                have := q1.symm.trans x'
                simp only [Option.some.injEq, Ent.tok.injEq] at this
                subst this
                exact ⟨_, Gh.setE_same _ _ _, fun _ _ hy => hy⟩
              · exact ⟨l, by rw [Gh.setE_ne _ _ hj]; exact x, fun _ _ y => y⟩
          have hvl : v'.cells.length = i2.size := by rw [fc3, hlen, c4]
          obtain ⟨i2', kp2⟩ := i1.remake (hU := fun c => (i1.C c).2 k _ b2 hk' hat0) (o1 := .grow n e i2.size (es ++ [v'])) (loc' := loc2) b2 (es.length * i2.size) ys hk' q1 (fun _ _ hy => hy) (fun o' ho' _ => q10 o' ho')
            (fun j u hu => by
              rw [cell_of hheap, List.getElem?_toArray]
              exact hmid j u hu)
            (fun id o' hid hne ha => by
              rw [St.get_put_ne (fun e => hne e.symm)] at hid
              exact hne (h.D id k o' _ b2 hid h1 ha hat0)) (h.own k _ b2 h1 hat0 (by omega))
            (fun b' hb' => At_grow (Gh.setE_same _ _ _) q2 hb')
            ⟨loc2, b2, cap2, i2, row.toArray, fz, Gh.setE_same _ _ _, q2, q3, q4, q5, q6, hheap, by simpa [hrowl] using q8,
              Nat.le_trans q9 (Nat.mul_le_mul_right _ (by simp)), fun o' ho' => by
                show (g.addF b2 (es.length * i2.size) ys).F b2 o' = none
                simp only [List.length_append, List.length_cons, List.length_nil, Nat.zero_add] at ho'
                rw [Nat.add_mul, Nat.one_mul] at ho'
                rw [Gh.addF_other _ _ _ _ (by rw [hyl, hlen, ← c4]; omega)]
                exact q10 o' (by omega), rfl, by simp; omega, by rw [bares_append, q13]; show (VM.bare v' && true) = true; rw [fc2]; rfl, by
                rw [RAtE_append]
                refine ⟨RAtE_mono hle _ _ _ _ q14, ?_⟩
                rw [RAtE_iff]
                refine ⟨fun u hu => by simp only [List.mem_singleton] at hu; subst hu; exact hvl, ?_⟩
                rw [show flat [v'] = v'.cells by simp [flat]]
                exact RAt_of_vals (RL_mono hle _ _ fc1) fun j u hu => ⟨by rw [Nat.zero_add]; exact Gh.addF_at g b2 (es.length * i2.size) ys j u hu, hyo u (List.mem_of_getElem? hu)⟩⟩
          have hput : (st.put k (.grow n e i2.size es)).put k (.grow n e i2.size (es ++ [v'])) = st.put k (.grow n e i2.size (es ++ [v'])) := by
            simp only [St.put, Tr.put, Tr.set_set]
          rw [hput] at i2'
          refine ⟨_, _, ?_, i2', kp1.trans kp2⟩
          simp only [Instr.storeAt, Instr.sureAddr, Sem.run_bind, Sem.run_pure, Result.andThen_ok, storeVar, hi.run_size, Sem.run_ite]
          have hysz : y.cells.size = ys.length := by rw [← hys]; exact (Array.length_toList).symm
          rw [if_neg (by omega)]
          show (storeCells _ y.cells.toList).run P w = _
          rw [hys]
          exact hst
      · cases h2
    · rename_i hno
      unfold rowStoreP at h2
      split at h2
      · rename_i n e z old
        split at h2
        · rename_i hcond
          simp only [Bool.and_eq_true] at hcond
          have c1 := Nat.eq_of_beq_eq_true hcond.1
          have c2 := Nat.le_of_ble_eq_true hcond.2
          subst c1
          cases h2
          simp only [didOf] at h5
          split at h5
          · cases h5
          · rename_i hro
            cases h5
            cases h6
            rw [blt_false] at hro
            refine ⟨rfl, ?_⟩
            simp only [R] at hx
            obtain ⟨loc, b, cap, hE, hl, rfl⟩ := hx
            obtain ⟨loc2, b2, cap2, i2, pre, rest, q1, q2, q3, q4, q5, q6, q7, q8, q9, q10, q11, q12, q13⟩ := h.H k _ h1
            have e1 := q1.symm.trans hE
            simp only [Option.some.injEq, Ent.tok.injEq] at e1
            subst e1
            have e2 := q2.symm.trans hl
            simp only [Option.some.injEq, Prod.mk.injEq] at e2
            obtain ⟨rfl, rfl⟩ := e2
            have hyc := R_cells hy hc.2
            obtain ⟨ys, hys⟩ : ∃ ys, y.cells.toList = ys := ⟨_, rfl⟩
            rw [hys] at hyc
            have hyl := RL_len hyc
            have hyo := ones_RL hc.2 hyc
            have hpl := RL_len q11
            have hpsz : pre.toList.length = pre.size := rfl
            have hbnd : off + ys.length ≤ (pre ++ rest).size := by
              rw [Array.size_append, hyl]; omega
            have hat0 : At g k (.row n e z old) b2 := ⟨loc2, cap2, q1, q2⟩
            have hst := run_storeCells_fz (P := P) b2 off e (0, 0) ys 0 (pre ++ rest) w q7 (by simpa using hbnd) (by simp) hyo
            simp only [Nat.add_zero] at hst
            have hrow : (pre ++ rest).toList.take off ++ ys ++ (pre ++ rest).toList.drop (off + ys.length) = ((pre.toList.take off ++ ys ++ pre.toList.drop (off + ys.length)).toArray ++ rest).toList := by
              rw [Array.toList_append, Array.toList_append, List.take_append_of_le_length (by omega), List.drop_append_of_le_length (by omega)]
              simp [List.append_assoc]
            rw [hrow] at hst
            have hheap : (w.setRow b2 ((pre.toList.take off ++ ys ++ pre.toList.drop (off + ys.length)).toArray ++ rest).toList.toArray).heap[b2]? = some (.cells ((pre.toList.take off ++ ys ++ pre.toList.drop (off + ys.length)).toArray ++ rest) e (0, 0)) := by
              rw [setRow_heap _ _ _ _ _ _ q7]
            have hMn : g.M b2 = none := by
              cases hm : g.M b2 with
              | none => rfl
              | some ee =>
                have := h.M b2 ee.1 ee.2 hm
                rw [q7] at this; cases this
            have hnl : (pre.toList.take off ++ ys ++ pre.toList.drop (off + ys.length)).length = pre.size := by
              simp only [List.length_append, List.length_take, List.length_drop]; omega
            have i1 : Inv T A g (st.put k (.row n e z (splice old off v.cells))) (w.setRow b2 ((pre.toList.take off ++ ys ++ pre.toList.drop (off + ys.length)).toArray ++ rest).toList.toArray) := h.write h1 hat0 _ (setRow_size _ _ _) (fun _ hb => setRow_ne _ _ _ hb)
              (fun j u hu => by rw [q9 j] at hu; cases hu) hMn (fun b' hb' => by
                obtain ⟨l, c, p1, p2⟩ := hb'
                have e1 := p1.symm.trans q1
                simp only [Option.some.injEq, Ent.tok.injEq] at e1
                subst e1
                have e2 := p2.symm.trans q2
                simp only [Option.some.injEq, Prod.mk.injEq] at e2
                exact e2.1)
              ⟨loc2, b2, cap2, i2, _, rest, q1, q2, q3, q4, q5, q6, hheap, by rw [Array.size_append, List.size_toArray, hnl, ← Array.size_append]; exact q8, q9, q10, by
                rw [List.toList_toArray]
                unfold splice
                have hyl' : v.cells.length = ys.length := hyl.symm
                rw [hyl']
                exact RL_append (RL_append (RL_take off q11) hyc) (RL_drop _ q11), by
                intro u hu
                rw [List.toList_toArray] at hu
                simp only [List.mem_append] at hu
                rcases hu with (hu | hu) | hu
                · exact q12 u (List.mem_of_mem_take hu)
                · exact hyo u hu
                · exact q12 u (List.mem_of_mem_drop hu), by
                unfold splice
                simp only [List.length_append, List.length_take, List.length_drop]
                omega⟩
            have kp1 : Kp A g w g (w.setRow b2 ((pre.toList.take off ++ ys ++ pre.toList.drop (off + ys.length)).toArray ++ rest).toList.toArray) := Kp.write (h.own k _ b2 h1 hat0 (by omega)) (setRow_size _ _ _) (fun _ hb => setRow_ne _ _ _ hb)
            refine ⟨_, _, ?_, i1, kp1⟩
            simp only [Instr.storeAt, Instr.sureAddr, Sem.run_bind, Sem.run_pure, Result.andThen_ok, storeVar, hi.run_size, Sem.run_ite]
            have hysz : y.cells.size = ys.length := by rw [← hys]; exact (Array.length_toList).symm
            rw [if_neg (by omega)]
            show (storeCells _ y.cells.toList).run P w = _
            rw [hys]
            exact hst
        · cases h2
      · cases h2
  · cases hp
end
section
variable {P : Program} {T : TT} {A : Nat → Prop} {g : Gh} {st : St} {w : World}
theorem At_row {loc : Nat → Option (Nat × Nat)} {k n b cap : Nat} {e : TypeId} {z : Nat} {cs : List AV} {b' : Nat} (hE : g.E k = some (.tok loc)) (hl : loc n = some (b, cap)) (h : At g k (.row n e z cs) b') : b' = b := by
  obtain ⟨l, c, q1, q2⟩ := h
  have e1 := q1.symm.trans hE
  simp only [Option.some.injEq, Ent.tok.injEq] at e1
  subst e1
  have e2 := q2.symm.trans hl
  simp only [Option.some.injEq, Prod.mk.injEq] at e2
  exact e2.1
theorem Inv.newRow (h : Inv T A g st w) {e : TypeId} {i : TI} (hi : T.get e = some i) (h1 : 1 ≤ i.size) {cs : List AV} {vals rest : List Value} {cap n : Nat} (hn : cs.length = n * i.size)
    (hr : RL g cs vals) (ho : ∀ v ∈ vals, v.oneCell' = true) (hsz : vals.length + rest.length = cap * i.size) (hcap : n ≤ cap) :
    ∃ g', Inv T A g' (st.new (.row n e i.size cs)).2 (w.drew.alloc (.cells (vals ++ rest).toArray e)) ∧ Kp A g w g' (w.drew.alloc (.cells (vals ++ rest).toArray e)) ∧
      R g' (.gs st.h i.size n) (.slice (some ⟨w.heap.size, 0, none⟩) n cap) := by
  have hd := h.drew
  have i1 : Inv T A g st (w.drew.alloc (.cells (vals ++ rest).toArray e)) := hd.alloc _
  have hE0 : g.E st.h = none := h.E _ (Nat.le_refl _)
  refine ⟨g.setE st.h (.tok fun m => if m = n then some (w.heap.size, cap) else none), ?_, ?_, ?_⟩
  · refine i1.name (.row n e i.size cs) _ w.heap.size (fun id o hid => ?_) (h.up _ (Nat.le_refl _)) ?_ ?_
    · exact h.not_new (Nat.le_refl _) id o hid
    · exact fun b' hb' => At_row (Gh.setE_same _ _ _) (by simp; rfl) hb'
    · refine ⟨_, w.heap.size, cap, i, vals.toArray, rest.toArray, Gh.setE_same _ _ _, by simp, fun m hm => ?_, hi, h1, hcap, ?_, by simp; exact hsz, fun o => h.F_new (Nat.le_refl _) o, rfl, ?_, ?_, hn⟩
      · rw [if_neg (by omega)]
      · have := World.heap_alloc_new (w := w.drew) (o := .cells (vals ++ rest).toArray e)
        rw [show vals.toArray ++ rest.toArray = (vals ++ rest).toArray by simp]
        exact this
      · rw [List.toList_toArray]
        exact RL_mono (Le.setE hE0) _ _ hr
      · rw [List.toList_toArray]; exact ho
  · exact ((Kp.drew A g w).trans (Kp.alloc _ hd)).trans (Kp.setE hE0)
  · simp only [R]
    exact ⟨_, w.heap.size, cap, Gh.setE_same _ _ _, by simp, rfl, hcap, h1⟩
theorem row_new {t xt ty e : TypeId} {i : TI} (he : Elem P T t xt e i) {n : Nat} {news : List Value} {x : Value} {els : List AV}
    (hx : Src P i.size x n news w) (hg : 0 < n) (hroom : roomOk n i = true) (h : Inv T A g st w) (hr : RL g (flat els) news) (ho : ∀ v ∈ news, v.oneCell' = true) :
    Gives P T A g w (.gs st.h i.size n) (st.new (.row n e i.size (flat els))).2 (Builtin.append_ #[t, xt] ty #[.slice none 0 0, x]) := by
  obtain ⟨f, z, f1, f2, f3, f4, f5⟩ := he.info
  obtain ⟨d, d1, d2⟩ := he.xt
  obtain ⟨r1, r2, r3⟩ := roomOk_le hroom
  have hs : Src P i.size (.slice none 0 0) 0 [] w := ⟨by simp [Builtin.lenOf], by simp [Builtin.firstCells], by simp [Builtin.firstCells], by simp⟩
  have hfit : Builtin.nextslicecap (0 + n) 0 * f.bytes ≤ 281474976710656 := growslice_fits (by omega) (by rw [Nat.zero_add, f3]; omega)
  have hrun := run_grow (ty := ty) he.t d1 d2 f1 f4 (by rw [f2]; exact hs) (by rw [f2]; exact hx) (by omega) (by omega) hfit
  have hge := grownCap_ge (w := w) (n := 0 + n) (c := 0) (e := e)
  have hnl : news.length = n * i.size := hx.l
  obtain ⟨g', k1, k2, k3⟩ := h.newRow (cs := flat els) (vals := news) (rest := (Builtin.zeroCells z.cells (grownCap w (0 + n) 0 e - (0 + n))).toList) (cap := grownCap w (0 + n) 0 e) (n := n) he.get r2
    (by rw [← RL_len hr]; exact hnl) hr ho (by
      rw [zeroCells_length, f5, hnl, ← Nat.add_mul]; congr 1; omega) (by omega)
  have hw : ([] : List Value).toArray ++ news.toArray ++ Builtin.zeroCells z.cells (grownCap w (0 + n) 0 e - (0 + n)) = (news ++ (Builtin.zeroCells z.cells (grownCap w (0 + n) 0 e - (0 + n))).toList).toArray := by
    apply Array.ext'; simp
  rw [hw, Nat.zero_add] at hrun
  rw [Nat.zero_add] at k1 k2 k3
  exact ⟨_, g', _, hrun, k3, k1, k2⟩
theorem row_old {t xt ty e : TypeId} {i : TI} (he : Elem P T t xt e i) {k n m : Nat} {cs : List AV} {els : List AV} {news : List Value} {x : Value} {b cap : Nat} {loc : Nat → Option (Nat × Nat)}
    (hk : st.get k = .ok (.row m e i.size cs)) (hro : st.ro ≤ k) (hE : g.E k = some (.tok loc)) (hl : loc m = some (b, cap))
    (hx : Src P i.size x n news w) (hn0 : 0 < n) (hroom : roomOk (m + n) i = true) (hr : RL g (flat els) news) (ho : ∀ v ∈ news, v.oneCell' = true) (h : Inv T A g st w) :
    Gives P T A g w (.gs k i.size (m + n)) (st.put k (.row (m + n) e i.size (cs ++ flat els))) (Builtin.append_ #[t, xt] ty #[.slice (some ⟨b, 0, none⟩) m cap, x]) := by
  obtain ⟨f, z, f1, f2, f3, f4, f5⟩ := he.info
  obtain ⟨d, d1, d2⟩ := he.xt
  obtain ⟨r1, r2, r3⟩ := roomOk_le hroom
  obtain ⟨loc2, b2, cap2, i2, pre, rest, q1, q2, q3, q4, q5, q6, q7, q8, q9, q10, q11, q12, q13⟩ := h.H k _ hk
  have e1 := q1.symm.trans hE
  simp only [Option.some.injEq, Ent.tok.injEq] at e1
  subst e1
  have e2 := q2.symm.trans hl
  simp only [Option.some.injEq, Prod.mk.injEq] at e2
  obtain ⟨rfl, rfl⟩ := e2
  have e3 := q4.symm.trans he.get
  simp only [Option.some.injEq] at e3
  subst e3
  have hnl : news.length = n * i2.size := hx.l
  have hpl : pre.size = m * i2.size := by have := RL_len q11; rw [← q13, ← this]; rfl
  have hpl' : pre.toList.length = m * i2.size := hpl
  have hat0 : At g k (.row m e i2.size cs) b2 := ⟨loc2, cap2, q1, q2⟩
  have hcl : (cs ++ flat els).length = (m + n) * i2.size := by
    rw [List.length_append, q13, Nat.add_mul, ← hnl, RL_len hr]
  by_cases hcp : m + n ≤ cap2
  · -- in place
    have hst := run_storeCells_fz (P := P) b2 (m * i2.size) e (0, 0) news 0 (pre ++ rest) w q7 (by
      rw [q8, hnl]; simp only [Nat.add_zero]; rw [← Nat.add_mul]; exact Nat.mul_le_mul_right _ hcp) (by simp) ho
    simp only [Nat.add_zero] at hst
    have hrun := run_room (ty := ty) (a := ⟨b2, 0, none⟩) he.t d1 d2 f1 (by rw [f2]; exact hx) hcp (by rw [f2, Addr.add_at, Nat.zero_add]; exact hst)
    have hrest : n * i2.size ≤ rest.size := by
      have h1 : pre.size + rest.size = cap2 * i2.size := by rw [← Array.size_append]; exact q8
      have h2 := Nat.mul_le_mul_right i2.size hcp
      rw [Nat.add_mul] at h2
      omega
    have hrow : (pre ++ rest).toList.take (m * i2.size) ++ news ++ (pre ++ rest).toList.drop (m * i2.size + news.length) = ((pre ++ news.toArray) ++ (rest.toList.drop news.length).toArray).toList := by
      rw [Array.toList_append, Array.toList_append, Array.toList_append, List.take_left' hpl', List.drop_append, List.drop_eq_nil_of_le (by omega), hpl', show m * i2.size + news.length - m * i2.size = news.length by omega]
      simp
    rw [hrow] at hrun
    have hheap : (w.setRow b2 ((pre ++ news.toArray) ++ (rest.toList.drop news.length).toArray).toList.toArray).heap[b2]? = some (.cells ((pre ++ news.toArray) ++ (rest.toList.drop news.length).toArray) e (0, 0)) := by
      rw [setRow_heap _ _ _ _ _ _ q7]
    have hsz : ((pre ++ news.toArray) ++ (rest.toList.drop news.length).toArray).size = cap2 * i2.size := by
      rw [← q8]
      simp only [Array.size_append, List.size_toArray, List.length_drop, Array.length_toList]
      omega
    have hMn : g.M b2 = none := by
      cases hm : g.M b2 with
      | none => rfl
      | some ee =>
        have := h.M b2 ee.1 ee.2 hm
        rw [q7] at this; cases this
    have i1 : Inv T A g (st.put k (.row m e i2.size cs)) (w.setRow b2 ((pre ++ news.toArray) ++ (rest.toList.drop news.length).toArray).toList.toArray) := h.write hk hat0 _ (setRow_size _ _ _) (fun _ hb => setRow_ne _ _ _ hb)
      (fun j u hu => by rw [q9 j] at hu; cases hu) hMn (fun b' hb' => At_row q1 q2 hb')
      ⟨loc2, b2, cap2, i2, pre, news.toArray ++ (rest.toList.drop news.length).toArray, q1, q2, q3, q4, q5, q6, by rw [← Array.append_assoc]; exact hheap, by rw [← Array.append_assoc]; exact hsz, q9, rfl, q11, q12, q13⟩
    have kp1 : Kp A g w g (w.setRow b2 ((pre ++ news.toArray) ++ (rest.toList.drop news.length).toArray).toList.toArray) := Kp.write (h.own k _ b2 hk hat0 hro) (setRow_size _ _ _) (fun _ hb => setRow_ne _ _ _ hb)
    have hk' : (st.put k (.row m e i2.size cs)).get k = .ok (.row m e i2.size cs) := St.get_put_same (St.get_ok.1 hk).1
    have hle : Le g ((g.addF b2 0 []).setE k (.tok fun u => if u = m + n then some (b2, cap2) else loc2 u)) := by
      refine (Le.addF fun o' _ _ => q9 o').trans ⟨fun _ _ _ x => x, fun _ _ x => x, fun j b x => ?_, fun j l x => ?_, Iff.rfl⟩
      · have : j ≠ k := fun e => by subst e; have := q1.symm.trans x; cases this
        rw [Gh.setE_ne _ _ this]; exact x
      · by_cases hj : j = k
        · subst hj
          have x' : g.E j = some (.tok l) := x
          have := q1.symm.trans x'
          simp only [Option.some.injEq, Ent.tok.injEq] at this
          subst this
          exact ⟨_, Gh.setE_same _ _ _, fun u y hy => by
            by_cases hu : u = m + n
            · have := q3 u (by omega); rw [this] at hy; cases hy
            · rw [if_neg hu]; exact hy⟩
        · exact ⟨l, by rw [Gh.setE_ne _ _ hj]; exact x, fun _ _ y => y⟩
    obtain ⟨i2', kp2⟩ := i1.remake (hU := fun c => (i1.C c).2 k _ b2 hk' hat0) (o1 := .row (m + n) e i2.size (cs ++ flat els)) (loc' := fun u => if u = m + n then some (b2, cap2) else loc2 u) b2 0 [] hk' q1
      (fun u y hy => by
        by_cases hu : u = m + n
        · have := q3 u (by omega); rw [this] at hy; cases hy
        · rw [if_neg hu]; exact hy) (fun o _ _ => q9 o) (fun j v hv => by simp at hv)
      (fun id o' hid hne ha => by
        rw [St.get_put_ne (fun e => hne e.symm)] at hid
        exact hne (h.D id k o' _ b2 hid hk ha hat0)) (h.own k _ b2 hk hat0 hro)
      (fun b' hb' => At_row (Gh.setE_same _ _ _) (by simp; rfl) hb')
      ⟨_, b2, cap2, i2, pre ++ news.toArray, (rest.toList.drop news.length).toArray, Gh.setE_same _ _ _, by simp, fun u hu => by rw [if_neg (by omega)]; exact q3 u (by omega), q4, q5, hcp, hheap, hsz, fun o => by
          show (g.addF b2 0 []).F b2 o = none
          rw [Gh.addF_other _ _ _ _ (by simp)]; exact q9 o, rfl, by
          rw [Array.toList_append, List.toList_toArray]
          exact RL_mono hle _ _ (RL_append q11 hr), by
          intro u hu
          rw [Array.toList_append, List.toList_toArray] at hu
          rcases List.mem_append.1 hu with hu | hu
          · exact q12 u hu
          · exact ho u hu, hcl⟩
    have hput : (st.put k (.row m e i2.size cs)).put k (.row (m + n) e i2.size (cs ++ flat els)) = st.put k (.row (m + n) e i2.size (cs ++ flat els)) := by
      simp only [St.put, Tr.put, Tr.set_set]
    rw [hput] at i2'
    refine ⟨_, _, _, hrun, ?_, i2', kp1.trans kp2⟩
    simp only [R]
    exact ⟨_, b2, cap2, Gh.setE_same _ _ _, by simp, rfl, hcp, q5⟩
  · -- in a new array
    have hadd : ∀ w' : World, (∀ b o, w'.cell? ⟨b, o, none⟩ = w.cell? ⟨b, o, none⟩) → (Builtin.firstCells i2.size m (.slice (some ⟨b2, 0, none⟩) m cap2)).run P w' = .ok pre w' := fun w' hw' => by
      have := run_firstCells_some (P := P) w' i2.size m ⟨b2, 0, none⟩ m cap2 pre.toList hpl' (fun j v hv => by
        rw [Addr.add_at, hw', Nat.zero_add]
        exact cell_pre q7 (by simpa using hv))
      simpa using this
    have hs : Src P i2.size (.slice (some ⟨b2, 0, none⟩) m cap2) m pre.toList w := ⟨by simp [Builtin.lenOf], by simpa using hadd w fun _ _ => rfl, by simpa using hadd w.drew fun _ _ => rfl, hpl'⟩
    have hg : cap2 < m + n := by omega
    have hfit : Builtin.nextslicecap (m + n) cap2 * f.bytes ≤ 281474976710656 := growslice_fits hg (by rw [f3]; omega)
    have hrun := run_grow (ty := ty) he.t d1 d2 f1 f4 (by rw [f2]; exact hs) (by rw [f2]; exact hx) hg (by omega) hfit
    have hge := grownCap_ge (w := w) (n := m + n) (c := cap2) (e := e)
    generalize grownCap w (m + n) cap2 e = cap3 at hrun hge
    have hw : pre.toList.toArray ++ news.toArray ++ Builtin.zeroCells z.cells (cap3 - (m + n)) = (pre.toList ++ news ++ (Builtin.zeroCells z.cells (cap3 - (m + n))).toList).toArray := by
      apply Array.ext'; simp [List.append_assoc]
    rw [hw] at hrun
    have hrl : (pre.toList ++ news).length + (Builtin.zeroCells z.cells (cap3 - (m + n))).toList.length = cap3 * i2.size := by
      rw [List.length_append, zeroCells_length, f5, hpl', hnl, ← Nat.add_mul, ← Nat.add_mul]; congr 1; omega
    generalize (Builtin.zeroCells z.cells (cap3 - (m + n))).toList = rest3 at hrun hrl
    have hd := h.drew
    have i1 : Inv T A g st (w.drew.alloc (.cells (pre.toList ++ news ++ rest3).toArray e)) := hd.alloc _
    have kp1 : Kp A g w g (w.drew.alloc (.cells (pre.toList ++ news ++ rest3).toArray e)) := (Kp.drew A g w).trans (Kp.alloc _ hd)
    have hheap : (w.drew.alloc (.cells (pre.toList ++ news ++ rest3).toArray e)).heap[w.heap.size]? = some (.cells ((pre.toList ++ news).toArray ++ rest3.toArray) e (0, 0)) := by
      have := World.heap_alloc_new (w := w.drew) (o := .cells (pre.toList ++ news ++ rest3).toArray e)
      rw [show (pre.toList ++ news).toArray ++ rest3.toArray = (pre.toList ++ news ++ rest3).toArray by simp]
      exact this
    have hFn : ∀ o, g.F w.heap.size o = none := fun o => h.F_new (Nat.le_refl _) o
    have hle : Le g ((g.addF w.heap.size 0 []).setE k (.tok fun u => if u = m + n then some (w.heap.size, cap3) else loc2 u)) := by
      refine (Le.addF fun o' _ _ => hFn o').trans ⟨fun _ _ _ x => x, fun _ _ x => x, fun j b x => ?_, fun j l x => ?_, Iff.rfl⟩
      · have : j ≠ k := fun e => by subst e; have := q1.symm.trans x; cases this
        rw [Gh.setE_ne _ _ this]; exact x
      · by_cases hj : j = k
        · subst hj
          have x' : g.E j = some (.tok l) := x
          have := q1.symm.trans x'
          simp only [Option.some.injEq, Ent.tok.injEq] at this
          subst this
          exact ⟨_, Gh.setE_same _ _ _, fun u y hy => by
            by_cases hu : u = m + n
            · have := q3 u (by omega); rw [this] at hy; cases hy
            · rw [if_neg hu]; exact hy⟩
        · exact ⟨l, by rw [Gh.setE_ne _ _ hj]; exact x, fun _ _ y => y⟩
    obtain ⟨i2', kp2⟩ := i1.remake (o1 := .row (m + n) e i2.size (cs ++ flat els)) (loc' := fun u => if u = m + n then some (w.heap.size, cap3) else loc2 u) w.heap.size 0 [] hk q1
      (fun u y hy => by
        by_cases hu : u = m + n
        · have := q3 u (by omega); rw [this] at hy; cases hy
        · rw [if_neg hu]; exact hy) (fun o _ _ => hFn o) (fun j v hv => by simp at hv)
      (fun id o' hid _ => h.not_new (Nat.le_refl _) id o' hid) (h.up _ (Nat.le_refl _))
      (fun b' hb' => At_row (Gh.setE_same _ _ _) (by simp; rfl) hb')
      ⟨_, w.heap.size, cap3, i2, (pre.toList ++ news).toArray, rest3.toArray, Gh.setE_same _ _ _, by simp, fun u hu => by rw [if_neg (by omega)]; exact q3 u (by omega), q4, q5, hge, hheap, by
          simp only [Array.size_append, List.size_toArray]; exact hrl, fun o => by
          show (g.addF w.heap.size 0 []).F w.heap.size o = none
          rw [Gh.addF_other _ _ _ _ (by simp)]; exact hFn o, rfl, by
          rw [List.toList_toArray]
          exact RL_mono hle _ _ (RL_append q11 hr), by
          intro u hu
          rw [List.toList_toArray] at hu
          rcases List.mem_append.1 hu with hu | hu
          · exact q12 u hu
          · exact ho u hu, hcl⟩
    refine ⟨_, _, _, hrun, ?_, i2', kp1.trans kp2⟩
    simp only [R]
    exact ⟨_, w.heap.size, cap3, Gh.setE_same _ _ _, by simp, rfl, hge, q5⟩
theorem rowAppend_sound {C : Caller} {t xt ty e : TypeId} {i : TI} (he : Elem P T t xt e i) {s x r : AV} {sv xv : Value} {new : List AV} {p : Plan} {fx : Fx} (hev : elemsV x = some new)
    (hp : rowAppendP i e s new = .ok p) (hrun : runPlan C st p = .ok (r, fx)) (hs : R g s sv) (hx : R g x xv) (h : Inv T A g st w) :
    Gives P T A g w r (fx.did.app st) (Builtin.append_ #[t, xt] ty #[sv, xv]) := by
  unfold rowAppendP at hp
  split at hp
  · exact append_sound he hev hp hrun hs hx h
  · rename_i v l
    simp only [bind_ok] at hp
    obtain ⟨new', hf, hp⟩ := hp
    split at hp
    · cases hp
    · rename_i hall
      have hc := all_len hall
      obtain ⟨news, s1, s2, s3, s4, s5⟩ := src_sound (P := P) hx hev hf hc (by simp) h
      have hpos : 0 < new'.length := by rw [s5]; simp
      split at hp
      · split at hp
        · rename_i hroom
          simp only [Except.ok.injEq] at hp
          subst hp
          simp only [runPlan, Except.ok.injEq, Prod.mk.injEq] at hrun
          obtain ⟨rfl, rfl⟩ := hrun
          simp only [R] at hs
          subst hs
          exact row_new he s1 hpos hroom h s2 s4
        · cases hp
      · rename_i k z n
        split at hp
        · rename_i hroom
          simp only [Bool.and_eq_true] at hroom
          obtain ⟨hroom, hzz⟩ := hroom
          have hzz := Nat.eq_of_beq_eq_true hzz
          subst hzz
          simp only [Except.ok.injEq] at hp
          subst hp
          simp only [runPlan, bind_ok, pure_ok] at hrun
          obtain ⟨ob, h1, ⟨v', o'⟩, h2, dd, h5, h6⟩ := hrun
          split at h2
          · rename_i m e' z' cs
            split at h2
            · rename_i hcond
              simp only [Bool.and_eq_true] at hcond
              have hm := Nat.eq_of_beq_eq_true hcond.1
              have he' := Nat.eq_of_beq_eq_true hcond.2.1
              have hz' := Nat.eq_of_beq_eq_true hcond.2.2
              subst hm he' hz'
              cases h2
              simp only [didOf] at h5
              split at h5
              · cases h5
              · rename_i hro
                cases h5
                cases h6
                rw [blt_false] at hro
                simp only [R] at hs
                obtain ⟨loc, b, cap, hE, hl, rfl, hcap, hz1⟩ := hs
                exact row_old he h1 (by omega) hE hl s1 hpos hroom s2 s4 h
            · cases h2
          · cases h2
        · cases hp
      · cases hp
theorem flat_ones : ∀ {cs : List AV}, ones cs = true → flat cs = cs
  | [], _ => rfl
  | v :: l, h => by
    simp only [ones, Bool.and_eq_true] at h
    rw [flat_cons, flat_ones h.2]
    cases v <;> first | rfl | (simp [one] at h)
theorem rowHeld_sound {C : Caller} {t xt ty e : TypeId} {i : TI} (he : Elem P T t xt e i) {s r : AV} {sv xv : Value} {z c : Nat} {new : List AV} {p : Plan} {fx : Fx}
    (hp : rowHeldP i e s z c new = .ok p) (hrun : runPlan C st p = .ok (r, fx)) (hs : R g s sv) (hx : R g (.hs z c new) xv) (h : Inv T A g st w) :
    Gives P T A g w r (fx.did.app st) (Builtin.append_ #[t, xt] ty #[sv, xv]) := by
  unfold rowHeldP at hp
  split at hp
  · cases hp
  · rename_i hc
    simp only [Bool.and_eq_true] at hc
    have hpos := blt_true.1 hc.1
    have hzz := Nat.eq_of_beq_eq_true hc.2
    subst hzz
    simp only [R] at hx
    obtain ⟨x1, x2, x3, b0, rfl, x4⟩ := hx
    obtain ⟨news, n1, n2⟩ := RAt_vals x4
    have hl : news.length = c * i.size := by rw [RL_len n1, x2]
    have hfirst : ∀ w' : World, (∀ b o, w'.cell? ⟨b, o, none⟩ = w.cell? ⟨b, o, none⟩) → (Builtin.firstCells i.size c (.slice (some ⟨b0, 0, none⟩) c c)).run P w' = .ok news.toArray w' := fun w' hw' =>
      run_firstCells_some (P := P) w' i.size c ⟨b0, 0, none⟩ c c news hl (fun j v hv => by
        rw [Addr.add_at, hw']
        exact h.F _ _ _ (n2 j v hv).1)
    have hsrc : Src P i.size (.slice (some ⟨b0, 0, none⟩) c c) c news w := ⟨by simp [Builtin.lenOf], hfirst w fun _ _ => rfl, hfirst w.drew fun _ _ => rfl, hl⟩
    have ho : ∀ v ∈ news, v.oneCell' = true := fun v hv => by
      obtain ⟨j, hj⟩ := List.getElem?_of_mem hv
      exact (n2 j v hj).2
    have hf := flat_ones x1
    have n1' : RL g (flat new) news := by rw [hf]; exact n1
    split at hp
    · split at hp
      · rename_i hroom
        simp only [Except.ok.injEq] at hp
        subst hp
        simp only [runPlan, Except.ok.injEq, Prod.mk.injEq] at hrun
        obtain ⟨rfl, rfl⟩ := hrun
        simp only [R] at hs
        subst hs
        have := row_new (ty := ty) he hsrc hpos hroom h n1' ho
        rw [hf] at this
        exact this
      · cases hp
    · rename_i k z' n
      split at hp
      · rename_i hroom
        simp only [Bool.and_eq_true] at hroom
        obtain ⟨hroom, hzz⟩ := hroom
        have hzz := Nat.eq_of_beq_eq_true hzz
        subst hzz
        simp only [Except.ok.injEq] at hp
        subst hp
        simp only [runPlan, bind_ok, pure_ok] at hrun
        obtain ⟨ob, h1, ⟨v', o'⟩, h2, dd, h5, h6⟩ := hrun
        split at h2
        · rename_i m e' z' cs
          split at h2
          · rename_i hcond
            simp only [Bool.and_eq_true] at hcond
            have hm := Nat.eq_of_beq_eq_true hcond.1
            have he' := Nat.eq_of_beq_eq_true hcond.2.1
            have hz' := Nat.eq_of_beq_eq_true hcond.2.2
            subst hm he' hz'
            cases h2
            simp only [didOf] at h5
            split at h5
            · cases h5
            · rename_i hro
              cases h5
              cases h6
              rw [blt_false] at hro
              simp only [R] at hs
              obtain ⟨loc, b, cap, hE, hl', rfl, hcap, hz1⟩ := hs
              have := row_old (ty := ty) he h1 (by omega) hE hl' hsrc hpos hroom n1' ho h
              rw [hf] at this
              exact this
          · cases h2
        · cases h2
      · cases hp
    · cases hp
theorem allStr_bare : ∀ {cs : List AV}, allStr cs = true → bares cs = true ∧ flat cs = cs ∧ ∀ v ∈ cs, v.cells.length = 1
  | [], _ => ⟨rfl, rfl, fun _ h => by cases h⟩
  | .str s :: l, h => by
    obtain ⟨a, b, c⟩ := allStr_bare (cs := l) (by simpa only [allStr] using h)
    refine ⟨by rw [bares_cons, a]; rfl, by rw [flat_cons, b]; rfl, fun v hv => ?_⟩
    rcases List.mem_cons.1 hv with rfl | hv
    · rfl
    · exact c v hv
theorem gsRead_sound {C : Caller} {t xt ty e : TypeId} {i : TI} (he : Elem P T t xt e i) {s r : AV} {sv xv : Value} {k z n : Nat} {p : Plan} {fx : Fx}
    (hp : gsReadP i e s k z n = .ok p) (hrun : runPlan C st p = .ok (r, fx)) (hs : R g s sv) (hx : R g (.gs k z n) xv) (h : Inv T A g st w) :
    Gives P T A g w r (fx.did.app st) (Builtin.append_ #[t, xt] ty #[sv, xv]) := by
  unfold gsReadP at hp
  split at hp
  · rename_i y es
    split at hp
    · rename_i hc
      simp only [Bool.and_eq_true] at hc
      obtain ⟨hroom, hpos, hy, hz, h1⟩ := hc
      have hpos := blt_true.1 hpos
      have hy := Nat.eq_of_beq_eq_true hy
      have hz := Nat.eq_of_beq_eq_true hz
      have h1 := Nat.eq_of_beq_eq_true h1
      subst hy hz
      simp only [Except.ok.injEq] at hp
      subst hp
      simp only [runPlan, bind_ok, pure_ok] at hrun
      obtain ⟨ob, g1, ⟨v', o'⟩, g2, dd, g5, g6⟩ := hrun
      split at g2
      · rename_i m e' z' cs
        split at g2
        · rename_i hcond
          simp only [Bool.and_eq_true] at hcond
          have hm := Nat.eq_of_beq_eq_true hcond.1.1
          have he' := Nat.eq_of_beq_eq_true hcond.1.2.1
          have hz' := Nat.eq_of_beq_eq_true hcond.1.2.2
          obtain ⟨b1, b2, b3⟩ := allStr_bare hcond.2
          subst hm he' hz'
          cases g2
          simp only [didOf] at g5
          cases g5
          cases g6
          simp only [R] at hs hx
          obtain ⟨loc, b, cap, hE, hl, rfl, hcap, hz1⟩ := hx
          obtain ⟨loc2, b2', cap2, i2, pre, rest, q1, q2, q3, q4, q5, q6, q7, q8, q9, q10, q11, q12, q13⟩ := h.H k _ g1
          have e1 := q1.symm.trans hE
          simp only [Option.some.injEq, Ent.tok.injEq] at e1
          subst e1
          have e2 := q2.symm.trans hl
          simp only [Option.some.injEq, Prod.mk.injEq] at e2
          obtain ⟨rfl, rfl⟩ := e2
          obtain ⟨hb0, ob, oo, ocap, rfl, ocapl, _, hes, hshut⟩ := hs
          have hshut : ocap = es.length := hshut
          obtain ⟨f, zv, f1, f2, f3, f4, f5⟩ := he.info
          obtain ⟨d, d1, d2⟩ := he.xt
          obtain ⟨r1, r2, r3⟩ := roomOk_le hroom
          rw [RAtE_iff] at hes
          obtain ⟨hesc, hesr⟩ := hes
          obtain ⟨olds, o1, o2⟩ := RAt_vals hesr
          have hol : olds.length = es.length * i.size := by rw [RL_len o1, flat_length hesc]
          have hpl : pre.toList.length = n * i.size := by rw [RL_len q11, q13, q10]
          have hs' : Src P i.size (.slice (some ⟨ob, oo, none⟩) es.length ocap) es.length olds w := by
            have hfirst : ∀ w' : World, (∀ b o, w'.cell? ⟨b, o, none⟩ = w.cell? ⟨b, o, none⟩) → (Builtin.firstCells i.size es.length (.slice (some ⟨ob, oo, none⟩) es.length ocap)).run P w' = .ok olds.toArray w' := fun w' hw' =>
              run_firstCells_some (P := P) w' i.size es.length ⟨ob, oo, none⟩ es.length ocap olds hol (fun j v hv => by
                rw [Addr.add_at, hw']
                exact h.F _ _ _ (o2 j v hv).1)
            exact ⟨by simp [Builtin.lenOf], hfirst w fun _ _ => rfl, hfirst w.drew fun _ _ => rfl, hol⟩
          have hx' : Src P i.size (.slice (some ⟨b2', 0, none⟩) n cap2) n pre.toList w := by
            have hfirst : ∀ w' : World, (∀ b o, w'.cell? ⟨b, o, none⟩ = w.cell? ⟨b, o, none⟩) → (Builtin.firstCells i.size n (.slice (some ⟨b2', 0, none⟩) n cap2)).run P w' = .ok pre.toList.toArray w' := fun w' hw' =>
              run_firstCells_some (P := P) w' i.size n ⟨b2', 0, none⟩ n cap2 pre.toList hpl (fun j v hv => by
                rw [Addr.add_at, hw', Nat.zero_add]
                exact cell_pre q7 (by simpa using hv))
            exact ⟨by simp [Builtin.lenOf], hfirst w fun _ _ => rfl, hfirst w.drew fun _ _ => rfl, hpl⟩
          have hg : ocap < es.length + n := by omega
          have hfit : Builtin.nextslicecap (es.length + n) ocap * f.bytes ≤ 281474976710656 := growslice_fits hg (by rw [f3]; omega)
          have hrun := run_grow (ty := ty) he.t d1 d2 f1 f4 (by rw [f2]; exact hs') (by rw [f2]; exact hx') hg (by omega) hfit
          have hge := grownCap_ge (w := w) (n := es.length + n) (c := ocap) (e := e')
          generalize grownCap w (es.length + n) ocap e' = cap3 at hrun hge
          have hw : olds.toArray ++ pre.toList.toArray ++ Builtin.zeroCells zv.cells (cap3 - (es.length + n)) = (olds ++ pre.toList ++ (Builtin.zeroCells zv.cells (cap3 - (es.length + n))).toList).toArray := by
            apply Array.ext'; simp [List.append_assoc]
          rw [hw] at hrun
          generalize (Builtin.zeroCells zv.cells (cap3 - (es.length + n))).toList = rest3 at hrun
          have hd := h.drew
          have i1 : Inv T A g st (w.drew.alloc (.cells (olds ++ pre.toList ++ rest3).toArray e')) := hd.alloc _
          have kp1 : Kp A g w g (w.drew.alloc (.cells (olds ++ pre.toList ++ rest3).toArray e')) := (Kp.drew A g w).trans (Kp.alloc _ hd)
          have hheap : (w.drew.alloc (.cells (olds ++ pre.toList ++ rest3).toArray e')).heap[w.heap.size]? = some (.cells (olds ++ pre.toList ++ rest3).toArray e') := World.heap_alloc_new (w := w.drew)
          have hF : ∀ o, 0 ≤ o → o < 0 + (olds ++ pre.toList).length → g.F w.heap.size o = none := fun o _ _ => h.F_new (Nat.le_refl _) o
          have i2' := i1.addF w.heap.size 0 (olds ++ pre.toList) hF (fun j v hv => by
            have hj : j < (olds ++ pre.toList).length := by
              rcases Nat.lt_or_ge j (olds ++ pre.toList).length with q | q
              · exact q
              · rw [List.getElem?_eq_none q] at hv; cases hv
            rw [cell_of hheap, List.getElem?_toArray, Nat.zero_add, List.getElem?_append_left hj]; exact hv) (fun id o ho => h.not_new (Nat.le_refl _) id o ho)
          have hle : Le g (g.addF w.heap.size 0 (olds ++ pre.toList)) := Le.addF hF
          refine ⟨_, _, _, hrun, ?_, i2', kp1.trans (Kp.addF (h.up _ (Nat.le_refl _)) hF)⟩
          have hcl : cs.length = n := by rw [q13, ← q10, h1, Nat.mul_one]
          simp only [R]
          refine ⟨by rw [bares_append, hb0, b1]; rfl, w.heap.size, 0, cap3, by rw [List.length_append, hcl], by rw [List.length_append, hcl]; exact hge, r2, ?_, trivial⟩
          rw [RAtE_iff]
          refine ⟨fun v hv => ?_, ?_⟩
          · rcases List.mem_append.1 hv with hv | hv
            · exact hesc v hv
            · rw [h1]; exact b3 v hv
          · rw [flat_append, b2]
            exact RAt_of_vals (RL_mono hle _ _ (RL_append o1 q11)) fun j v hv => ⟨Gh.addF_at g w.heap.size 0 (olds ++ pre.toList) j v hv, by
              rcases List.mem_append.1 (List.mem_of_getElem? hv) with hm | hm
              · obtain ⟨jj, hjj⟩ := List.getElem?_of_mem hm
                exact (o2 jj v hjj).2
              · exact q12 v hm⟩
        · cases g2
      · cases g2
    · cases hp
  · cases hp
end
end Go.VM
