/- Append, done. -/
import Derived.Test.YtjagieigmleneajGreatDoorVmOps6
namespace Go.VM
section
variable {P : Program} {T : TT} {A : Nat → Prop} {g : Gh} {st : St} {w : World}

theorem fit_cells {v v' : AV} {xs : List Value} (e : fit v = .ok v') (h : RL g v.cells xs) : RL g v'.cells xs ∧ bare v' = true ∧ v'.cells.length = v.cells.length := by
  unfold fit at e
  simp only at e
  split at e
  · rename_i hb
    simp only [Except.ok.injEq] at e
    subst e
    cases v with
    | agg cs => exact ⟨RL_strip h, hb, by simp [AV.cells]⟩
    | sl z es p =>
      cases p with
      | own k => exact ⟨RL_strip (vs := [.sl z es (.own k)]) h, hb, rfl⟩
      | _ => exact ⟨h, hb, rfl⟩
    | _ => exact ⟨h, hb, rfl⟩
  · cases e
theorem RL_split {us vs : List AV} {xs : List Value} (h : RL g (us ++ vs) xs) : RL g us (xs.take us.length) ∧ RL g vs (xs.drop us.length) := by
  have h1 := RL_take us.length h
  have h2 := RL_drop us.length h
  simp at h1 h2
  exact ⟨h1, h2⟩
theorem fits_flat : ∀ {vs vs' : List AV} {xs : List Value}, fits vs = .ok vs' → RL g (flat vs) xs → RL g (flat vs') xs ∧ bares vs' = true ∧ vs'.length = vs.length ∧ vs'.map (·.cells.length) = vs.map (·.cells.length)
  | [], _, _, e, h => by
    simp only [fits, Except.ok.injEq] at e; subst e; exact ⟨h, rfl, rfl, rfl⟩
  | v :: vs, vs', xs, e, h => by
    simp only [fits, bind_ok, pure_ok] at e
    obtain ⟨u, e1, us, e2, rfl⟩ := e
    rw [flat_cons] at h
    obtain ⟨h1, h2⟩ := RL_split h
    obtain ⟨k1, k2, k3⟩ := fit_cells e1 h1
    obtain ⟨k4, k5, k6, k7⟩ := fits_flat e2 h2
    refine ⟨?_, by simp [bares_cons, k2, k5], by simp [k6], by simp [k3, k7]⟩
    rw [flat_cons]
    have := RL_append k1 k4
    rwa [List.take_append_drop] at this

theorem grownCap_ge {n c : Nat} {e : TypeId} : n ≤ grownCap w n c e := by
  simp only [grownCap, Question.cut]; omega

theorem zeroCells_length (z : Array Value) (n : Nat) : (Builtin.zeroCells z n).toList.length = n * z.size := by
  simp [Builtin.zeroCells]

/-- What is known of the element type. -/
structure Elem (P : Program) (T : TT) (t xt e : TypeId) (i : TI) : Prop where
  t : P.underlying t = some (.slice e)
  xt : ∃ d, P.underlying xt = some d ∧ ∀ k, d ≠ .int k
  get : T.get e = some i
  ok : TIOk P e i

theorem Elem.info {t xt e : TypeId} {i : TI} (h : Elem P T t xt e i) : ∃ f z, P.info? e = some f ∧ f.size = i.size ∧ f.bytes = i.bytes ∧ f.zero = some z ∧ z.cells.size = i.size := by
  obtain ⟨f, h1, h2, h3, z, h4, h5, _⟩ := h.ok.info
  exact ⟨f, z, h1, h2, h3, h4, h5⟩

theorem roomOk_le {n : Nat} {i : TI} (h : roomOk n i = true) : n * i.bytes ≤ 70368744177664 ∧ 1 ≤ i.size ∧ n ≤ 70368744177664 := by
  simp only [roomOk, Bool.and_eq_true] at h
  exact ⟨Nat.le_of_ble_eq_true h.1, Nat.le_of_ble_eq_true h.2.1, Nat.le_of_ble_eq_true h.2.2⟩

/-- An append that makes a new array. -/
theorem append_new {t xt ty e : TypeId} {i : TI} (he : Elem P T t xt e i) {base : Option Addr} {sLen sCap n : Nat} {olds news : List Value} {x : Value}
    (hs : Src P i.size (.slice base sLen sCap) sLen olds w) (hx : Src P i.size x n news w) (hg : sCap < sLen + n) (hroom : roomOk (sLen + n) i = true)
    (h : Inv T A g st w) {els : List AV} (hn : els.length = sLen + n) (hc : ∀ v ∈ els, v.cells.length = i.size) (hb : bares els = true) (hr : RL g (flat els) (olds ++ news)) (ho : ∀ v ∈ olds ++ news, v.oneCell' = true) :
    Gives P T A g w (.sl i.size els (.own st.h)) (st.new (.tok (sLen + n) e)).2 (Builtin.append_ #[t, xt] ty #[.slice base sLen sCap, x]) := by
  obtain ⟨f, z, f1, f2, f3, f4, f5⟩ := he.info
  obtain ⟨d, d1, d2⟩ := he.xt
  obtain ⟨r1, r2, r3⟩ := roomOk_le hroom
  have hfit : Builtin.nextslicecap (sLen + n) sCap * f.bytes ≤ 281474976710656 := growslice_fits hg (by rw [f3]; omega)
  have hrun := run_grow (ty := ty) he.t d1 d2 f1 f4 (by rw [f2]; exact hs) (by rw [f2]; exact hx) hg (by omega) hfit
  have hge := grownCap_ge (w := w) (n := sLen + n) (c := sCap) (e := e)
  obtain ⟨g', k1, k2, k3⟩ := h.newTok (rest := (Builtin.zeroCells z.cells (grownCap w (sLen + n) sCap e - (sLen + n))).toList) (cap := grownCap w (sLen + n) sCap e) he.get r2 hn hc hb hr ho (by
    rw [zeroCells_length, f5, RL_len hr, flat_length hc, hn, ← Nat.add_mul]
    congr 1; omega) hge
  have hw : olds.toArray ++ news.toArray ++ Builtin.zeroCells z.cells (grownCap w (sLen + n) sCap e - (sLen + n)) = (olds ++ news ++ (Builtin.zeroCells z.cells (grownCap w (sLen + n) sCap e - (sLen + n))).toList).toArray := by
    apply Array.ext'; simp
  rw [hw] at hrun
  exact ⟨_, g', _, hrun, k3, k1, k2⟩

/-- An append to a slice of the call's own. -/
theorem append_own {t xt ty e : TypeId} {i : TI} (he : Elem P T t xt e i) {k b o cap n : Nat} {es new : List AV} {news : List Value} {x : Value}
    (hk : st.get k = .ok (.tok es.length e)) (hro : st.ro ≤ k) (hb0 : bares es = true) (hes : RAtE g i.size es b o) (hcap : es.length ≤ cap) (hp : permR g (.own k) es.length b o cap)
    (hx : Src P i.size x n news w) (hn : new.length = n) (hn0 : 0 < n) (hc : ∀ v ∈ new, v.cells.length = i.size) (hb : bares new = true) (hr : RL g (flat new) news) (ho : ∀ v ∈ news, v.oneCell' = true)
    (hroom : roomOk (es.length + n) i = true) (h : Inv T A g st w) :
    Gives P T A g w (.sl i.size (es ++ new) (.own k)) (st.put k (.tok (es.length + n) e)) (Builtin.append_ #[t, xt] ty #[.slice (some ⟨b, o, none⟩) es.length cap, x]) := by
  obtain ⟨f, z, f1, f2, f3, f4, f5⟩ := he.info
  obtain ⟨d, d1, d2⟩ := he.xt
  obtain ⟨r1, r2, r3⟩ := roomOk_le hroom
  obtain ⟨rfl, loc, hE, hloc⟩ := hp
  obtain ⟨loc2, b2, cap2, i2, vs, fz, q1, q2, q3, q4, q5, q6, q7, q8, q9, q10⟩ := h.H k _ hk
  have e1 := q1.symm.trans hE
  simp only [Option.some.injEq, Ent.tok.injEq] at e1
  subst e1
  have e2 := q2.symm.trans hloc
  simp only [Option.some.injEq, Prod.mk.injEq] at e2
  obtain ⟨rfl, rfl⟩ := e2
  have e3 := q4.symm.trans he.get
  simp only [Option.some.injEq] at e3
  subst e3
  have hes' := hes
  rw [RAtE_iff] at hes'
  obtain ⟨hesc, hesr⟩ := hes'
  obtain ⟨olds, o1, o2⟩ := RAt_vals hesr
  have hol : olds.length = es.length * i2.size := by rw [RL_len o1, flat_length hesc]
  have hnl : news.length = n * i2.size := hx.l
  have hfl : flat (es ++ new) = flat es ++ flat new := flat_append _ _
  have hcall : ∀ v ∈ es ++ new, v.cells.length = i2.size := fun v hv => by
    rcases List.mem_append.1 hv with hv | hv
    · exact hesc v hv
    · exact hc v hv
  have hball : bares (es ++ new) = true := by rw [bares_append, hb0, hb]; rfl
  have hlenA : (es ++ new).length = es.length + n := by simp [hn]
  by_cases hcp : es.length + n ≤ cap2
  · -- in place
    have hst := run_storeCells_fz (P := P) b2 (es.length * i2.size) e fz news 0 vs w q7 (by
      rw [q8, hnl]; simp only [Nat.add_zero]; rw [← Nat.add_mul]; exact Nat.mul_le_mul_right _ hcp) (by simpa using q9) ho
    simp only [Nat.add_zero] at hst
    have hrun := run_room (ty := ty) (a := ⟨b2, 0, none⟩) he.t d1 d2 f1 (by rw [f2]; exact hx) hcp (by rw [f2, Addr.add_at, Nat.zero_add]; exact hst)
    generalize hrow : vs.toList.take (es.length * i2.size) ++ news ++ vs.toList.drop (es.length * i2.size + news.length) = row at hrun
    have hrowl : row.length = vs.size := by
      rw [← hrow]
      have : es.length * i2.size + news.length ≤ vs.size := by rw [q8, hnl, ← Nat.add_mul]; exact Nat.mul_le_mul_right _ hcp
      simp; omega
    have hpre : ∀ j, j < es.length * i2.size → row[j]? = vs[j]? := fun j hj => by
      rw [← hrow, List.append_assoc, List.getElem?_append_left (by simp; have := Nat.mul_le_mul_right i2.size hcap; omega), List.getElem?_take, if_pos hj]
      simp
    have hmid : ∀ j v, news[j]? = some v → row[es.length * i2.size + j]? = some v := fun j v hv => by
      have hj : j < news.length := by
        rcases Nat.lt_or_ge j news.length with q | q
        · exact q
        · simp [List.getElem?_eq_none q] at hv
      have htl : (vs.toList.take (es.length * i2.size)).length = es.length * i2.size := by
        have h1 : vs.toList.length = cap2 * i2.size := q8
        have h2 : es.length * i2.size ≤ cap2 * i2.size := Nat.mul_le_mul_right _ hcap
        rw [List.length_take, h1]; omega
      rw [← hrow, List.append_assoc, List.getElem?_append_right (by rw [htl]; omega), htl, List.getElem?_append_left (by omega)]
      rw [show es.length * i2.size + j - es.length * i2.size = j by omega]; exact hv
    have hheap : (w.setRow b2 row.toArray).heap[b2]? = some (.cells row.toArray e fz) := setRow_heap _ _ _ _ _ _ q7
    have hMn : g.M b2 = none := by
      cases hm : g.M b2 with
      | none => rfl
      | some ee =>
        have := h.M b2 ee.1 ee.2 hm
        rw [q7] at this; cases this
    have hat0 : At g k (.tok es.length e) b2 := ⟨loc2, cap2, q1, q2⟩
    have i1 : Inv T A g (st.put k (.tok es.length e)) (w.setRow b2 row.toArray) := h.write hk hat0 (.tok es.length e) (setRow_size _ _ _) (fun _ hb => setRow_ne _ _ _ hb)
      (fun j v hv => by
        have hj : j < es.length * i2.size := by
          rcases Nat.lt_or_ge j (es.length * i2.size) with q | q
          · exact q
          · rw [q10 j q] at hv; cases hv
        have := h.F b2 j v hv
        rw [cell_of q7] at this
        rw [cell_of hheap, List.getElem?_toArray, hpre j hj]; exact this) hMn
      (fun b' hb' => by
        obtain ⟨l, c, p1, p2⟩ := hb'
        have e1 := p1.symm.trans q1
        simp only [Option.some.injEq, Ent.tok.injEq] at e1
        subst e1
        have e2 := p2.symm.trans q2
        simp only [Option.some.injEq, Prod.mk.injEq] at e2
        exact e2.1)
      ⟨loc2, b2, cap2, i2, row.toArray, fz, q1, q2, q3, q4, q5, q6, hheap, by simpa [hrowl] using q8, q9, q10⟩
    have kp1 : Kp A g w g (w.setRow b2 row.toArray) := Kp.write (h.own k _ b2 hk hat0 hro) (setRow_size _ _ _) (fun _ hb => setRow_ne _ _ _ hb)
    have hk' : (st.put k (.tok es.length e)).get k = .ok (.tok es.length e) := St.get_put_same (St.get_ok.1 hk).1
    have hnone : ∀ o, es.length * i2.size ≤ o → o < es.length * i2.size + news.length → g.F b2 o = none := fun o ho _ => q10 o ho
    obtain ⟨i2', kp2⟩ := i1.retok (n' := es.length + n) (loc' := fun m => if m = es.length + n then some (b2, cap2) else loc2 m) b2 (es.length * i2.size) news hk' q1
      (fun m y hy => by
        by_cases hm : m = es.length + n
        · have := q3 m (by omega); rw [this] at hy; cases hy
        · rw [if_neg hm]; exact hy) hro hnone
      (fun j v hv => by rw [cell_of hheap, List.getElem?_toArray]; exact hmid j v hv)
      (fun id o hid hne ha => by
        rw [St.get_put_ne (fun e => hne e.symm)] at hid
        exact hne (h.D id k o _ b2 hid hk ha hat0)) (h.own k _ b2 hk hat0 hro)
      (fun b c hbc => by rw [if_pos rfl] at hbc; simp only [Option.some.injEq, Prod.mk.injEq] at hbc; exact hbc.1.symm)
      ⟨_, b2, cap2, i2, row.toArray, fz, Gh.setE_same _ _ _, by simp, fun m hm => by rw [if_neg (by omega)]; exact q3 m (by omega), q4, q5, hcp, hheap, by simpa [hrowl] using q8,
        Nat.le_trans q9 (Nat.mul_le_mul_right _ (by omega)), fun o ho' => by
          show (g.addF b2 (es.length * i2.size) news).F b2 o = none
          rw [Nat.add_mul] at ho'
          rw [Gh.addF_other _ _ _ _ (by omega)]
          exact q10 o (by omega)⟩
    have hput : (st.put k (.tok es.length e)).put k (.tok (es.length + n) e) = st.put k (.tok (es.length + n) e) := by
      simp only [St.put, Tr.put, Tr.set_set]
    rw [hput] at i2'
    refine ⟨_, _, _, hrun, ?_, i2', kp1.trans kp2⟩
    have hle : Le g _ := kp2.le
    simp only [R]
    refine ⟨hball, b2, 0, cap2, by rw [hlenA], by rw [hlenA]; exact hcp, q5, ?_, rfl, _, Gh.setE_same _ _ _, by simp [hn]⟩
    rw [RAtE_append]
    refine ⟨RAtE_mono hle _ _ _ _ hes, ?_⟩
    rw [RAtE_iff]
    refine ⟨hc, RAt_of_vals (RL_mono hle _ _ hr) fun j v hv => ⟨?_, ho v (List.mem_of_getElem? hv)⟩⟩
    rw [Nat.zero_add]
    exact Gh.addF_at g b2 (es.length * i2.size) news j v hv
  · -- in a new array
    have hadd : ∀ w' : World, (∀ b o, w'.cell? ⟨b, o, none⟩ = w.cell? ⟨b, o, none⟩) → (Builtin.firstCells i2.size es.length (.slice (some ⟨b2, 0, none⟩) es.length cap2)).run P w' = .ok olds.toArray w' := fun w' hw' =>
      run_firstCells_some (P := P) w' i2.size es.length ⟨b2, 0, none⟩ es.length cap2 olds hol (fun j v hv => by
        rw [Addr.add_at, hw']
        exact h.F _ _ _ (o2 j v hv).1)
    have hs : Src P i2.size (.slice (some ⟨b2, 0, none⟩) es.length cap2) es.length olds w := ⟨by simp [Builtin.lenOf], hadd w fun _ _ => rfl, hadd w.drew fun _ _ => rfl, hol⟩
    have hg : cap2 < es.length + n := by omega
    have hfit : Builtin.nextslicecap (es.length + n) cap2 * f.bytes ≤ 281474976710656 := growslice_fits hg (by rw [f3]; omega)
    have hrun := run_grow (ty := ty) he.t d1 d2 f1 f4 (by rw [f2]; exact hs) (by rw [f2]; exact hx) hg (by omega) hfit
    have hge := grownCap_ge (w := w) (n := es.length + n) (c := cap2) (e := e)
    generalize grownCap w (es.length + n) cap2 e = cap3 at hrun hge
    have hw : olds.toArray ++ news.toArray ++ Builtin.zeroCells z.cells (cap3 - (es.length + n)) = (olds ++ news ++ (Builtin.zeroCells z.cells (cap3 - (es.length + n))).toList).toArray := by
      apply Array.ext'; simp
    rw [hw] at hrun
    have hrl : (Builtin.zeroCells z.cells (cap3 - (es.length + n))).toList.length = (cap3 - (es.length + n)) * i2.size := by rw [zeroCells_length, f5]
    generalize (Builtin.zeroCells z.cells (cap3 - (es.length + n))).toList = rest at hrun hrl
    have hd := h.drew
    have i1 : Inv T A g st (w.drew.alloc (.cells (olds ++ news ++ rest).toArray e)) := hd.alloc _
    have kp1 : Kp A g w g (w.drew.alloc (.cells (olds ++ news ++ rest).toArray e)) := (Kp.drew A g w).trans (Kp.alloc _ hd)
    have hheap : (w.drew.alloc (.cells (olds ++ news ++ rest).toArray e)).heap[w.heap.size]? = some (.cells (olds ++ news ++ rest).toArray e) := World.heap_alloc_new (w := w.drew)
    have hvl : (olds ++ news).length = (es.length + n) * i2.size := by simp [hol, hnl, Nat.add_mul]
    obtain ⟨i2', kp2⟩ := i1.retok (n' := es.length + n) (loc' := fun m => if m = es.length + n then some (w.heap.size, cap3) else loc2 m) w.heap.size 0 (olds ++ news) hk q1
      (fun m y hy => by
        by_cases hm : m = es.length + n
        · have := q3 m (by omega); rw [this] at hy; cases hy
        · rw [if_neg hm]; exact hy) hro (fun o _ _ => h.F_new (Nat.le_refl _) o)
      (fun j v hv => by
        have hj : j < (olds ++ news).length := by
          rcases Nat.lt_or_ge j (olds ++ news).length with q | q
          · exact q
          · rw [List.getElem?_eq_none q] at hv; cases hv
        rw [cell_of hheap, List.getElem?_toArray, Nat.zero_add, List.getElem?_append_left hj]; exact hv)
      (fun id o hid _ => h.not_new (Nat.le_refl _) id o hid) (h.up _ (Nat.le_refl _))
      (fun b c hbc => by rw [if_pos rfl] at hbc; simp only [Option.some.injEq, Prod.mk.injEq] at hbc; exact hbc.1.symm)
      ⟨_, w.heap.size, cap3, i2, (olds ++ news ++ rest).toArray, (0, 0), Gh.setE_same _ _ _, by simp, fun m hm => by rw [if_neg (by omega)]; exact q3 m (by omega), q4, q5, hge, hheap, by
          simp only [List.size_toArray]
          rw [List.length_append, hvl, hrl, ← Nat.add_mul]
          congr 1; omega, by simp, fun o ho' => by
          show (g.addF w.heap.size 0 (olds ++ news)).F w.heap.size o = none
          rw [Gh.addF_other _ _ _ _ (by omega)]
          exact h.F_new (Nat.le_refl _) o⟩
    refine ⟨_, _, _, hrun, ?_, i2', kp1.trans kp2⟩
    simp only [R]
    refine ⟨hball, w.heap.size, 0, cap3, by rw [hlenA], by rw [hlenA]; exact hge, q5, ?_, rfl, _, Gh.setE_same _ _ _, by simp [hn]⟩
    rw [RAtE_iff]
    refine ⟨hcall, ?_⟩
    rw [hfl]
    exact RAt_of_vals (RL_mono kp2.le _ _ (RL_append o1 hr)) fun j v hv => ⟨Gh.addF_at g w.heap.size 0 (olds ++ news) j v hv, by
      rcases List.mem_append.1 (List.mem_of_getElem? hv) with hm | hm
      · obtain ⟨jj, hjj⟩ := List.getElem?_of_mem hm
        exact (o2 jj v hjj).2
      · exact ho v hm⟩

end
end Go.VM
