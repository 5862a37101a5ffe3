/- Slices whose elements an object holds. -/
import Derived.Test.YtjagieigmleneajGreatDoorVmOps9
namespace Go.VM
section
variable {P : Program} {T : TT} {A : Nat → Prop} {g : Gh} {st : St} {w : World}

/-- What is known grows, and an object of a slice moves on. -/
theorem Inv.remake (h : Inv T A g st w) {k : Nat} {o0 o1 : Obj} {loc loc' : Nat → Option (Nat × Nat)} (b' lo : Nat) (vals : List Value)
    (hk : st.get k = .ok o0) (hE : g.E k = some (.tok loc)) (hloc : ∀ m x, loc m = some x → loc' m = some x)
    (hnone : ∀ o, lo ≤ o → o < lo + vals.length → g.F b' o = none) (hcell : ∀ i v, vals[i]? = some v → w.cell? ⟨b', lo + i, none⟩ = some v)
    (hown : ∀ id o, st.get id = .ok o → id ≠ k → ¬ At g id o b') (hA : A b') (hat : ∀ b, At ((g.addF b' lo vals).setE k (.tok loc')) k o1 b → b = b')
    (ho : Holds T ((g.addF b' lo vals).setE k (.tok loc')) w k o1) :
    Inv T A ((g.addF b' lo vals).setE k (.tok loc')) (st.put k o1) w ∧ Kp A g w ((g.addF b' lo vals).setE k (.tok loc')) w := by
  have hlt := (St.get_ok.1 hk).1
  have le1 : Le g (g.addF b' lo vals) := Le.addF hnone
  have le2 : Le (g.addF b' lo vals) ((g.addF b' lo vals).setE k (.tok loc')) := by
    refine ⟨fun _ _ _ x => x, fun _ _ x => x, fun j b x => ?_, fun j l x => ?_⟩
    · have : j ≠ k := fun e => by subst e; have := hE.symm.trans x; cases this
      rw [Gh.setE_ne _ _ this]; exact x
    · by_cases hj : j = k
      · subst hj
        have x' : g.E j = some (.tok l) := x
        have := hE.symm.trans x'
        simp only [Option.some.injEq, Ent.tok.injEq] at this
        subst this
        exact ⟨loc', Gh.setE_same _ _ _, hloc⟩
      · exact ⟨l, by rw [Gh.setE_ne _ _ hj]; exact x, fun _ _ y => y⟩
  have le := le1.trans le2
  refine ⟨⟨?_, h.M, ?_, ?_, ?_, ?_, h.up⟩, ⟨Nat.le_refl _, fun _ _ => rfl, fun b hb o => Gh.addF_other _ _ _ _ (.inl fun e => hb (e ▸ hA)), fun _ _ => rfl, le, rfl, rfl, rfl⟩⟩
  · intro b o v hv
    by_cases hc : b = b' ∧ lo ≤ o ∧ o < lo + vals.length
    · obtain ⟨rfl, h1, h2⟩ := hc
      have hv' : (g.addF b lo vals).F b o = some v := hv
      simp only [Gh.addF] at hv'
      rw [if_pos ⟨trivial, h1, h2⟩] at hv'
      have := hcell _ _ hv'
      rwa [show lo + (o - lo) = o by omega] at this
    · have hv' : (g.addF b' lo vals).F b o = some v := hv
      rw [Gh.addF_other _ _ _ _ (by omega)] at hv'
      exact h.F b o v hv'
  · intro id hid
    have hid' : st.h ≤ id := hid
    rw [Gh.setE_ne _ _ (by omega)]
    exact h.E id hid'
  · intro id o hid
    by_cases hj : id = k
    · subst hj
      rw [St.get_put_same hlt] at hid
      cases hid; exact ho
    · rw [St.get_put_ne (fun e => hj e.symm)] at hid
      exact Holds_mono (h.H id o hid) le (Gh.setE_ne _ _ hj) fun b hb => ⟨fun _ => Gh.addF_other _ _ _ _ (.inl fun e => hown id o hid hj (e ▸ hb)), rfl⟩
  · intro id id' o o' b h1 h2 a1 a2
    by_cases hi : id = k <;> by_cases hi' : id' = k
    · rw [hi, hi']
    · subst hi
      rw [St.get_put_same hlt] at h1
      cases h1
      rw [St.get_put_ne (fun e => hi' e.symm)] at h2
      rw [At_E (Gh.setE_ne _ _ hi')] at a2
      have := hat b a1; subst this
      exact absurd a2 (hown id' o' h2 hi')
    · subst hi'
      rw [St.get_put_same hlt] at h2
      cases h2
      rw [St.get_put_ne (fun e => hi e.symm)] at h1
      rw [At_E (Gh.setE_ne _ _ hi)] at a1
      have := hat b a2; subst this
      exact absurd a1 (hown id o h1 hi)
    · rw [St.get_put_ne (fun e => hi e.symm)] at h1
      rw [St.get_put_ne (fun e => hi' e.symm)] at h2
      rw [At_E (Gh.setE_ne _ _ hi)] at a1
      rw [At_E (Gh.setE_ne _ _ hi')] at a2
      exact h.D id id' o o' b h1 h2 a1 a2
  · intro id o b h1 a1 hr
    by_cases hi : id = k
    · subst hi
      rw [St.get_put_same hlt] at h1
      cases h1
      have := hat b a1; subst this
      exact hA
    · rw [St.get_put_ne (fun e => hi e.symm)] at h1
      rw [At_E (Gh.setE_ne _ _ hi)] at a1
      exact h.own id o b h1 a1 hr

theorem At_grow {loc : Nat → Option (Nat × Nat)} {k n b cap : Nat} {e : TypeId} {z : Nat} {es : List AV} {b' : Nat} (hE : g.E k = some (.tok loc)) (hl : loc n = some (b, cap)) (h : At g k (.grow n e z es) b') : b' = b := by
  obtain ⟨l, c, q1, q2⟩ := h
  have e1 := q1.symm.trans hE
  simp only [Option.some.injEq, Ent.tok.injEq] at e1
  subst e1
  have e2 := q2.symm.trans hl
  simp only [Option.some.injEq, Prod.mk.injEq] at e2
  exact e2.1

/-- A slice of the call's own, in a new block; the elements behind the first ones are not yet known. -/
theorem Inv.newGrow (h : Inv T A g st w) {e : TypeId} {i : TI} (hi : T.get e = some i) (h1 : 1 ≤ i.size) {els : List AV} {vals rest : List Value} {cap n : Nat} (hn : els.length ≤ n)
    (hc : ∀ v ∈ els, v.cells.length = i.size) (hb : bares els = true) (hr : RL g (flat els) vals) (ho : ∀ v ∈ vals, v.oneCell' = true) (hsz : vals.length + rest.length = cap * i.size) (hcap : n ≤ cap) :
    ∃ g', Inv T A g' (st.new (.grow n e i.size els)).2 (w.drew.alloc (.cells (vals ++ rest).toArray e)) ∧ Kp A g w g' (w.drew.alloc (.cells (vals ++ rest).toArray e)) ∧
      R g' (.gs st.h i.size n) (.slice (some ⟨w.heap.size, 0, none⟩) n cap) := by
  have hd := h.drew
  have hF : ∀ o, 0 ≤ o → o < 0 + vals.length → g.F w.heap.size o = none := fun o _ _ => h.F_new (Nat.le_refl _) o
  have hvl : vals.length = els.length * i.size := by rw [RL_len hr, flat_length hc]
  have i1 : Inv T A g st (w.drew.alloc (.cells (vals ++ rest).toArray e)) := hd.alloc _
  have i2 : Inv T A (g.addF w.heap.size 0 vals) st (w.drew.alloc (.cells (vals ++ rest).toArray e)) := i1.addF _ 0 vals hF (fun k v hv => by
      have : (w.drew.alloc (.cells (vals ++ rest).toArray e)).heap[w.heap.size]? = some (.cells (vals ++ rest).toArray e) := World.heap_alloc_new (w := w.drew)
      rw [cell_of this]
      have hk : k < vals.length := by
        rcases Nat.lt_or_ge k vals.length with q | q
        · exact q
        · simp [List.getElem?_eq_none q] at hv
      simp only [Nat.zero_add, List.getElem?_toArray]
      rw [List.getElem?_append_left hk]; exact hv) fun id o hid => h.not_new (Nat.le_refl _) id o hid
  have hE0 : (g.addF w.heap.size 0 vals).E st.h = none := h.E _ (Nat.le_refl _)
  have le1 : Le g (g.addF w.heap.size 0 vals) := Le.addF hF
  refine ⟨(g.addF w.heap.size 0 vals).setE st.h (.tok fun m => if m = n then some (w.heap.size, cap) else none), ?_, ?_, ?_⟩
  · refine i2.name (.grow n e i.size els) _ w.heap.size (fun id o hid => ?_) (h.up _ (Nat.le_refl _)) ?_ ?_
    · exact h.not_new (Nat.le_refl _) id o hid
    · exact fun b' hb' => At_grow (Gh.setE_same _ _ _) (by simp; rfl) hb'
    · refine ⟨_, w.heap.size, cap, i, (vals ++ rest).toArray, (0, 0), Gh.setE_same _ _ _, by simp, fun m hm => ?_, hi, h1, hcap, World.heap_alloc_new (w := w.drew), by simpa using hsz, by simp, fun o hof => ?_, rfl, hn, hb, ?_⟩
      · rw [if_neg (by omega)]
      · show (g.addF w.heap.size 0 vals).F w.heap.size o = none
        rw [Gh.addF_other _ _ _ _ (by omega)]
        exact h.F_new (Nat.le_refl _) o
      · refine RAtE_mono (Le.setE hE0) _ _ _ _ ?_
        rw [RAtE_iff]
        refine ⟨hc, RAt_of_vals (RL_mono le1 _ _ hr) fun k x hx => ⟨Gh.addF_at g _ 0 vals k x hx, ho x (List.mem_of_getElem? hx)⟩⟩
  · exact ((Kp.drew A g w).trans (Kp.alloc _ hd)).trans ((Kp.addF (h.up _ (Nat.le_refl _)) hF).trans (Kp.setE hE0))
  · simp only [R]
    exact ⟨_, w.heap.size, cap, Gh.setE_same _ _ _, by simp, rfl, hcap, h1⟩

/-- Of the appended elements, either all or none are known. -/
structure Known (g : Gh) (size c : Nat) (kn : List AV) (news vals : List Value) : Prop where
  pre : ∃ rest, news = vals ++ rest
  len : kn.length ≤ c
  cells : ∀ v ∈ kn, v.cells.length = size
  bare : bares kn = true
  rl : RL g (flat kn) vals
  ones : ∀ v ∈ news, v.oneCell' = true
theorem Known.all {size c : Nat} {new : List AV} {news : List Value} (hn : new.length = c) (hc : ∀ v ∈ new, v.cells.length = size) (hb : bares new = true) (hr : RL g (flat new) news) (ho : ∀ v ∈ news, v.oneCell' = true) : Known g size c new news news :=
  ⟨⟨[], by simp⟩, by omega, hc, hb, hr, ho⟩
theorem Known.none {size c : Nat} {news : List Value} (ho : ∀ v ∈ news, v.oneCell' = true) : Known g size c [] news [] :=
  ⟨⟨news, rfl⟩, by simp, fun _ h => (by cases h), rfl, RL_nil, ho⟩

/-- An append that makes a new array, and a new object. -/
theorem grow_new {t xt ty e : TypeId} {i : TI} (he : Elem P T t xt e i) {base : Option Addr} {sLen sCap n : Nat} {olds news vals : List Value} {x : Value} {es kn : List AV}
    (hs : Src P i.size (.slice base sLen sCap) sLen olds w) (hx : Src P i.size x n news w) (hg : sCap < sLen + n) (hroom : roomOk (sLen + n) i = true)
    (h : Inv T A g st w) (hn : es.length = sLen) (hc : ∀ v ∈ es, v.cells.length = i.size) (hb : bares es = true) (hr : RL g (flat es) olds) (ho : ∀ v ∈ olds, v.oneCell' = true)
    (hkn : Known g i.size n kn news vals) :
    Gives P T A g w (.gs st.h i.size (sLen + n)) (st.new (.grow (sLen + n) e i.size (es ++ kn))).2 (Builtin.append_ #[t, xt] ty #[.slice base sLen sCap, x]) := by
  obtain ⟨f, z, f1, f2, f3, f4, f5⟩ := he.info
  obtain ⟨d, d1, d2⟩ := he.xt
  obtain ⟨r1, r2, r3⟩ := roomOk_le hroom
  have hfit : Builtin.nextslicecap (sLen + n) sCap * f.bytes ≤ 281474976710656 := growslice_fits hg (by rw [f3]; omega)
  have hrun := run_grow (ty := ty) he.t d1 d2 f1 f4 (by rw [f2]; exact hs) (by rw [f2]; exact hx) hg (by omega) hfit
  have hge := grownCap_ge (w := w) (n := sLen + n) (c := sCap) (e := e)
  have hol : olds.length = sLen * i.size := by rw [RL_len hr, flat_length hc, hn]
  have hnl : news.length = n * i.size := hx.l
  obtain ⟨rest, hrest⟩ := hkn.pre
  have hlen := congrArg List.length hrest
  rw [List.length_append] at hlen
  obtain ⟨g', k1, k2, k3⟩ := h.newGrow (els := es ++ kn) (vals := olds ++ vals) (rest := rest ++ (Builtin.zeroCells z.cells (grownCap w (sLen + n) sCap e - (sLen + n))).toList) (cap := grownCap w (sLen + n) sCap e) (n := sLen + n) he.get r2
    (by rw [List.length_append]; have := hkn.len; omega)
    (fun v hv => by
      rcases List.mem_append.1 hv with hv | hv
      · exact hc v hv
      · exact hkn.cells v hv)
    (by rw [bares_append, hb, hkn.bare]; rfl) (by rw [flat_append]; exact RL_append hr hkn.rl)
    (fun v hv => by
      rcases List.mem_append.1 hv with hv | hv
      · exact ho v hv
      · exact hkn.ones v (by rw [hrest]; exact List.mem_append_left _ hv))
    (by
      rw [List.length_append, List.length_append, zeroCells_length, f5]
      have : (sLen + n) * i.size + (grownCap w (sLen + n) sCap e - (sLen + n)) * i.size = grownCap w (sLen + n) sCap e * i.size := by
        rw [← Nat.add_mul]; congr 1; omega
      rw [Nat.add_mul] at this
      omega) hge
  have hw : olds.toArray ++ news.toArray ++ Builtin.zeroCells z.cells (grownCap w (sLen + n) sCap e - (sLen + n)) = (olds ++ vals ++ (rest ++ (Builtin.zeroCells z.cells (grownCap w (sLen + n) sCap e - (sLen + n))).toList)).toArray := by
    apply Array.ext'; simp [hrest, List.append_assoc]
  rw [hw] at hrun
  exact ⟨_, g', _, hrun, k3, k1, k2⟩

/-- What is known of an object that holds a slice, all of whose elements are known. -/
structure Slot (T : TT) (g : Gh) (w : World) (k : Nat) (o : Obj) (e : TypeId) (i : TI) (loc : Nat → Option (Nat × Nat)) (b cap : Nat) (vs : Array Value) (fz : Nat × Nat) (es : List AV) : Prop where
  s_E : g.E k = some (.tok loc)
  s_loc : loc es.length = some (b, cap)
  s_top : ∀ m, es.length < m → loc m = none
  s_get : T.get e = some i
  s_size : 1 ≤ i.size
  s_le : es.length ≤ cap
  s_heap : w.heap[b]? = some (.cells vs e fz)
  s_sz : vs.size = cap * i.size
  s_fz : fz.2 ≤ es.length * i.size
  s_F : ∀ o, es.length * i.size ≤ o → g.F b o = none
  s_bare : bares es = true
  s_atR : RAtE g i.size es b 0
  s_At : At g k o b
  s_uniq : ∀ b', At g k o b' → b' = b
  s_holds : ∀ (w' : World) (vs' : Array Value), w'.heap[b]? = some (.cells vs' e fz) → vs'.size = cap * i.size → Holds T g w' k o
theorem slot_tok {k : Nat} {e : TypeId} {i : TI} {es : List AV} {loc : Nat → Option (Nat × Nat)} {b cap : Nat} (h : Inv T A g st w) (hk : st.get k = .ok (.tok es.length e)) (hi : T.get e = some i)
    (hE : g.E k = some (.tok loc)) (hl : loc es.length = some (b, cap)) (hb : bares es = true) (hes : RAtE g i.size es b 0) : ∃ vs fz, Slot T g w k (.tok es.length e) e i loc b cap vs fz es := by
  obtain ⟨loc2, b2, cap2, i2, vs, fz, q1, q2, q3, q4, q5, q6, q7, q8, q9, q10⟩ := h.H k _ hk
  have e1 := q1.symm.trans hE
  simp only [Option.some.injEq, Ent.tok.injEq] at e1
  subst e1
  have e2 := q2.symm.trans hl
  simp only [Option.some.injEq, Prod.mk.injEq] at e2
  obtain ⟨rfl, rfl⟩ := e2
  have e3 := q4.symm.trans hi
  simp only [Option.some.injEq] at e3
  subst e3
  refine ⟨vs, fz, q1, q2, q3, q4, q5, q6, q7, q8, q9, q10, hb, hes, ⟨loc2, cap2, q1, q2⟩, fun b' hb' => ?_, fun w' vs' h1 h2 => ⟨loc2, b2, cap2, i2, vs', fz, q1, q2, q3, q4, q5, q6, h1, h2, q9, q10⟩⟩
  obtain ⟨l, c, p1, p2⟩ := hb'
  have e1 := p1.symm.trans q1
  simp only [Option.some.injEq, Ent.tok.injEq] at e1
  subst e1
  have e2 := p2.symm.trans q2
  simp only [Option.some.injEq, Prod.mk.injEq] at e2
  exact e2.1
theorem slot_grow {k : Nat} {e : TypeId} {i : TI} {z : Nat} {es : List AV} (h : Inv T A g st w) (hk : st.get k = .ok (.grow es.length e z es)) (hi : T.get e = some i) :
    z = i.size ∧ ∃ loc b cap vs fz, Slot T g w k (.grow es.length e z es) e i loc b cap vs fz es := by
  obtain ⟨loc, b, cap, i2, vs, fz, q1, q2, q3, q4, q5, q6, q7, q8, q9, q10, q11, q12, q13, q14⟩ := h.H k _ hk
  have e3 := q4.symm.trans hi
  simp only [Option.some.injEq] at e3
  subst e3
  subst q11
  exact ⟨rfl, loc, b, cap, vs, fz, q1, q2, q3, q4, q5, q6, q7, q8, q9, q10, q13, q14, ⟨loc, cap, q1, q2⟩, fun b' hb' => At_grow q1 q2 hb',
    fun w' vs' h1 h2 => ⟨loc, b, cap, i2, vs', fz, q1, q2, q3, q4, q5, q6, h1, h2, q9, q10, rfl, q12, q13, q14⟩⟩

/-- An append to a slice that an object holds. -/
theorem grow_old {t xt ty e : TypeId} {i : TI} (he : Elem P T t xt e i) {k b cap n : Nat} {o : Obj} {loc : Nat → Option (Nat × Nat)} {vs : Array Value} {fz : Nat × Nat} {es kn : List AV} {news vals : List Value} {x : Value}
    (hk : st.get k = .ok o) (hro : st.ro ≤ k) (hS : Slot T g w k o e i loc b cap vs fz es)
    (hx : Src P i.size x n news w) (hn0 : 0 < n) (hkn : Known g i.size n kn news vals) (hroom : roomOk (es.length + n) i = true) (h : Inv T A g st w) :
    Gives P T A g w (.gs k i.size (es.length + n)) (st.put k (.grow (es.length + n) e i.size (es ++ kn))) (Builtin.append_ #[t, xt] ty #[.slice (some ⟨b, 0, none⟩) es.length cap, x]) := by
  obtain ⟨f, z, f1, f2, f3, f4, f5⟩ := he.info
  obtain ⟨d, d1, d2⟩ := he.xt
  obtain ⟨r1, r2, r3⟩ := roomOk_le hroom
  obtain ⟨q1, q2, q3, q4, q5, q6, q7, q8, q9, q10, hb0, hes, hat0, huniq, hO⟩ := hS
  have hes' := hes
  rw [RAtE_iff] at hes'
  obtain ⟨hesc, hesr⟩ := hes'
  obtain ⟨olds, o1, o2⟩ := RAt_vals hesr
  have hol : olds.length = es.length * i.size := by rw [RL_len o1, flat_length hesc]
  have hnl : news.length = n * i.size := hx.l
  obtain ⟨rest0, hrest⟩ := hkn.pre
  have hvl0 : vals.length = kn.length * i.size := by rw [RL_len hkn.rl, flat_length hkn.cells]
  have hknl := hkn.len
  have hvn : vals.length ≤ news.length := by rw [hrest, List.length_append]; omega
  have hcall : ∀ v ∈ es ++ kn, v.cells.length = i.size := fun v hv => by
    rcases List.mem_append.1 hv with hv | hv
    · exact hesc v hv
    · exact hkn.cells v hv
  have hball : bares (es ++ kn) = true := by rw [bares_append, hb0, hkn.bare]; rfl
  have hlenA : (es ++ kn).length = es.length + kn.length := List.length_append
  by_cases hcp : es.length + n ≤ cap
  · -- in place
    have hst := run_storeCells_fz (P := P) b (es.length * i.size) e fz news 0 vs w q7 (by
      rw [q8, hnl]; simp only [Nat.add_zero]; rw [← Nat.add_mul]; exact Nat.mul_le_mul_right _ hcp) (by simpa using q9) hkn.ones
    simp only [Nat.add_zero] at hst
    have hrun := run_room (ty := ty) (a := ⟨b, 0, none⟩) he.t d1 d2 f1 (by rw [f2]; exact hx) hcp (by rw [f2, Addr.add_at, Nat.zero_add]; exact hst)
    generalize hrow : vs.toList.take (es.length * i.size) ++ news ++ vs.toList.drop (es.length * i.size + news.length) = row at hrun
    have hrowl : row.length = vs.size := by
      rw [← hrow]
      have : es.length * i.size + news.length ≤ vs.size := by rw [q8, hnl, ← Nat.add_mul]; exact Nat.mul_le_mul_right _ hcp
      simp; omega
    have hpre : ∀ j, j < es.length * i.size → row[j]? = vs[j]? := fun j hj => by
      rw [← hrow, List.append_assoc, List.getElem?_append_left (by simp; have := Nat.mul_le_mul_right i.size q6; omega), List.getElem?_take, if_pos hj]
      simp
    have hmid : ∀ j v, news[j]? = some v → row[es.length * i.size + j]? = some v := fun j v hv => by
      have hj : j < news.length := by
        rcases Nat.lt_or_ge j news.length with q | q
        · exact q
        · simp [List.getElem?_eq_none q] at hv
      have htl : (vs.toList.take (es.length * i.size)).length = es.length * i.size := by
        have h1 : vs.toList.length = cap * i.size := q8
        have h2 : es.length * i.size ≤ cap * i.size := Nat.mul_le_mul_right _ q6
        rw [List.length_take, h1]; omega
      rw [← hrow, List.append_assoc, List.getElem?_append_right (by rw [htl]; omega), htl, List.getElem?_append_left (by omega)]
      rw [show es.length * i.size + j - es.length * i.size = j by omega]; exact hv
    have hheap : (w.setRow b row.toArray).heap[b]? = some (.cells row.toArray e fz) := setRow_heap _ _ _ _ _ _ q7
    have hMn : g.M b = none := by
      cases hm : g.M b with
      | none => rfl
      | some ee =>
        have := h.M b ee.1 ee.2 hm
        rw [q7] at this; cases this
    have i1 : Inv T A g (st.put k o) (w.setRow b row.toArray) := h.write hk hat0 o (setRow_size _ _ _) (fun _ hb => setRow_ne _ _ _ hb)
      (fun j v hv => by
        have hj : j < es.length * i.size := by
          rcases Nat.lt_or_ge j (es.length * i.size) with q | q
          · exact q
          · rw [q10 j q] at hv; cases hv
        have := h.F b j v hv
        rw [cell_of q7] at this
        rw [cell_of hheap, List.getElem?_toArray, hpre j hj]; exact this) hMn huniq
      (hO _ _ hheap (by simpa [hrowl] using q8))
    have kp1 : Kp A g w g (w.setRow b row.toArray) := Kp.write (h.own k _ b hk hat0 hro) (setRow_size _ _ _) (fun _ hb => setRow_ne _ _ _ hb)
    have hk' : (st.put k o).get k = .ok o := St.get_put_same (St.get_ok.1 hk).1
    obtain ⟨i2', kp2⟩ := i1.remake (o1 := .grow (es.length + n) e i.size (es ++ kn)) (loc' := fun m => if m = es.length + n then some (b, cap) else loc m) b (es.length * i.size) vals hk' q1
      (fun m y hy => by
        by_cases hm : m = es.length + n
        · have := q3 m (by omega); rw [this] at hy; cases hy
        · rw [if_neg hm]; exact hy) (fun o ho _ => q10 o ho)
      (fun j v hv => by
        rw [cell_of hheap, List.getElem?_toArray]
        refine hmid j v ?_
        rw [hrest, List.getElem?_append_left (by
          rcases Nat.lt_or_ge j vals.length with q | q
          · exact q
          · simp [List.getElem?_eq_none q] at hv)]
        exact hv)
      (fun id o' hid hne ha => by
        rw [St.get_put_ne (fun e => hne e.symm)] at hid
        exact hne (h.D id k o' _ b hid hk ha hat0)) (h.own k _ b hk hat0 hro)
      (fun b' hb' => At_grow (Gh.setE_same _ _ _) (by simp; rfl) hb')
      ⟨_, b, cap, i, row.toArray, fz, Gh.setE_same _ _ _, by simp, fun m hm => by rw [if_neg (by omega)]; exact q3 m (by omega), q4, q5, hcp, hheap, by simpa [hrowl] using q8,
        Nat.le_trans q9 (Nat.mul_le_mul_right _ (by rw [hlenA]; omega)), fun o' ho' => by
          show (g.addF b (es.length * i.size) vals).F b o' = none
          rw [hlenA, Nat.add_mul] at ho'
          rw [Gh.addF_other _ _ _ _ (by omega)]
          exact q10 o' (by omega), rfl, by rw [hlenA]; omega, hball, by
          have hle : Le g ((g.addF b (es.length * i.size) vals).setE k (.tok fun m => if m = es.length + n then some (b, cap) else loc m)) := by
            refine (Le.addF fun o' ho' _ => q10 o' ho').trans ⟨fun _ _ _ x => x, fun _ _ x => x, fun j b x => ?_, fun j l x => ?_⟩
            · have : j ≠ k := fun e => by subst e; have := q1.symm.trans x; cases this
              rw [Gh.setE_ne _ _ this]; exact x
            · by_cases hj : j = k
              · subst hj
                have x' : g.E j = some (.tok l) := x
                have := q1.symm.trans x'
                simp only [Option.some.injEq, Ent.tok.injEq] at this
                subst this
                exact ⟨_, Gh.setE_same _ _ _, fun m y hy => by
                  by_cases hm : m = es.length + n
                  · have := q3 m (by omega); rw [this] at hy; cases hy
                  · rw [if_neg hm]; exact hy⟩
              · exact ⟨l, by rw [Gh.setE_ne _ _ hj]; exact x, fun _ _ y => y⟩
          rw [RAtE_append]
          refine ⟨RAtE_mono hle _ _ _ _ hes, ?_⟩
          rw [RAtE_iff]
          refine ⟨hkn.cells, RAt_of_vals (RL_mono hle _ _ hkn.rl) fun j v hv => ⟨?_, hkn.ones v (by rw [hrest]; exact List.mem_append_left _ (List.mem_of_getElem? hv))⟩⟩
          rw [Nat.zero_add]
          exact Gh.addF_at g b (es.length * i.size) vals j v hv⟩
    have hput : (st.put k o).put k (.grow (es.length + n) e i.size (es ++ kn)) = st.put k (.grow (es.length + n) e i.size (es ++ kn)) := by
      simp only [St.put, Tr.put, Tr.set_set]
    rw [hput] at i2'
    refine ⟨_, _, _, hrun, ?_, i2', kp1.trans kp2⟩
    simp only [R]
    exact ⟨_, b, cap, Gh.setE_same _ _ _, by simp, rfl, hcp, q5⟩
  · -- in a new array
    have hadd : ∀ w' : World, (∀ b o, w'.cell? ⟨b, o, none⟩ = w.cell? ⟨b, o, none⟩) → (Builtin.firstCells i.size es.length (.slice (some ⟨b, 0, none⟩) es.length cap)).run P w' = .ok olds.toArray w' := fun w' hw' =>
      run_firstCells_some (P := P) w' i.size es.length ⟨b, 0, none⟩ es.length cap olds hol (fun j v hv => by
        rw [Addr.add_at, hw']
        exact h.F _ _ _ (o2 j v hv).1)
    have hs : Src P i.size (.slice (some ⟨b, 0, none⟩) es.length cap) es.length olds w := ⟨by simp [Builtin.lenOf], hadd w fun _ _ => rfl, hadd w.drew fun _ _ => rfl, hol⟩
    have hg : cap < es.length + n := by omega
    have hfit : Builtin.nextslicecap (es.length + n) cap * f.bytes ≤ 281474976710656 := growslice_fits hg (by rw [f3]; omega)
    have hrun := run_grow (ty := ty) he.t d1 d2 f1 f4 (by rw [f2]; exact hs) (by rw [f2]; exact hx) hg (by omega) hfit
    have hge := grownCap_ge (w := w) (n := es.length + n) (c := cap) (e := e)
    generalize grownCap w (es.length + n) cap e = cap3 at hrun hge
    have hw : olds.toArray ++ news.toArray ++ Builtin.zeroCells z.cells (cap3 - (es.length + n)) = (olds ++ vals ++ (rest0 ++ (Builtin.zeroCells z.cells (cap3 - (es.length + n))).toList)).toArray := by
      apply Array.ext'; simp [hrest, List.append_assoc]
    rw [hw] at hrun
    have hrl : (rest0 ++ (Builtin.zeroCells z.cells (cap3 - (es.length + n))).toList).length + (olds ++ vals).length = cap3 * i.size := by
      have hlen := congrArg List.length hrest
      rw [List.length_append] at hlen
      rw [List.length_append, List.length_append, zeroCells_length, f5]
      have : (es.length + n) * i.size + (cap3 - (es.length + n)) * i.size = cap3 * i.size := by
        rw [← Nat.add_mul]; congr 1; omega
      rw [Nat.add_mul] at this
      omega
    generalize rest0 ++ (Builtin.zeroCells z.cells (cap3 - (es.length + n))).toList = rest at hrun hrl
    have hd := h.drew
    have i1 : Inv T A g st (w.drew.alloc (.cells (olds ++ vals ++ rest).toArray e)) := hd.alloc _
    have kp1 : Kp A g w g (w.drew.alloc (.cells (olds ++ vals ++ rest).toArray e)) := (Kp.drew A g w).trans (Kp.alloc _ hd)
    have hheap : (w.drew.alloc (.cells (olds ++ vals ++ rest).toArray e)).heap[w.heap.size]? = some (.cells (olds ++ vals ++ rest).toArray e) := World.heap_alloc_new (w := w.drew)
    have hvl : (olds ++ vals).length = (es ++ kn).length * i.size := by rw [List.length_append, hlenA, hol, hvl0, Nat.add_mul]
    have hones : ∀ v ∈ olds ++ vals, v.oneCell' = true := fun v hv => by
      rcases List.mem_append.1 hv with hm | hm
      · obtain ⟨jj, hjj⟩ := List.getElem?_of_mem hm
        exact (o2 jj v hjj).2
      · exact hkn.ones v (by rw [hrest]; exact List.mem_append_left _ hm)
    have hle : Le g ((g.addF w.heap.size 0 (olds ++ vals)).setE k (.tok fun m => if m = es.length + n then some (w.heap.size, cap3) else loc m)) := by
      refine (Le.addF fun o' _ _ => h.F_new (Nat.le_refl _) o').trans ⟨fun _ _ _ x => x, fun _ _ x => x, fun j b x => ?_, fun j l x => ?_⟩
      · have : j ≠ k := fun e => by subst e; have := q1.symm.trans x; cases this
        rw [Gh.setE_ne _ _ this]; exact x
      · by_cases hj : j = k
        · subst hj
          have x' : g.E j = some (.tok l) := x
          have := q1.symm.trans x'
          simp only [Option.some.injEq, Ent.tok.injEq] at this
          subst this
          exact ⟨_, Gh.setE_same _ _ _, fun m y hy => by
            by_cases hm : m = es.length + n
            · have := q3 m (by omega); rw [this] at hy; cases hy
            · rw [if_neg hm]; exact hy⟩
        · exact ⟨l, by rw [Gh.setE_ne _ _ hj]; exact x, fun _ _ y => y⟩
    obtain ⟨i2', kp2⟩ := i1.remake (o1 := .grow (es.length + n) e i.size (es ++ kn)) (loc' := fun m => if m = es.length + n then some (w.heap.size, cap3) else loc m) w.heap.size 0 (olds ++ vals) hk q1
      (fun m y hy => by
        by_cases hm : m = es.length + n
        · have := q3 m (by omega); rw [this] at hy; cases hy
        · rw [if_neg hm]; exact hy) (fun o' _ _ => h.F_new (Nat.le_refl _) o')
      (fun j v hv => by
        have hj : j < (olds ++ vals).length := by
          rcases Nat.lt_or_ge j (olds ++ vals).length with q | q
          · exact q
          · rw [List.getElem?_eq_none q] at hv; cases hv
        rw [cell_of hheap, List.getElem?_toArray, Nat.zero_add, List.getElem?_append_left hj]; exact hv)
      (fun id o' hid _ => h.not_new (Nat.le_refl _) id o' hid) (h.up _ (Nat.le_refl _))
      (fun b' hb' => At_grow (Gh.setE_same _ _ _) (by simp; rfl) hb')
      ⟨_, w.heap.size, cap3, i, (olds ++ vals ++ rest).toArray, (0, 0), Gh.setE_same _ _ _, by simp, fun m hm => by rw [if_neg (by omega)]; exact q3 m (by omega), q4, q5, hge, hheap, by
          simp only [List.size_toArray]
          rw [List.length_append]; omega, by simp, fun o' ho' => by
          show (g.addF w.heap.size 0 (olds ++ vals)).F w.heap.size o' = none
          rw [Gh.addF_other _ _ _ _ (by omega)]
          exact h.F_new (Nat.le_refl _) o', rfl, by rw [hlenA]; omega, hball, by
          rw [RAtE_iff]
          refine ⟨hcall, ?_⟩
          rw [flat_append]
          exact RAt_of_vals (RL_mono hle _ _ (RL_append o1 hkn.rl)) fun j v hv => ⟨Gh.addF_at g w.heap.size 0 (olds ++ vals) j v hv, hones v (List.mem_of_getElem? hv)⟩⟩
    refine ⟨_, _, _, hrun, ?_, i2', kp1.trans kp2⟩
    simp only [R]
    exact ⟨_, w.heap.size, cap3, Gh.setE_same _ _ _, by simp, rfl, hge, q5⟩
end
end Go.VM
