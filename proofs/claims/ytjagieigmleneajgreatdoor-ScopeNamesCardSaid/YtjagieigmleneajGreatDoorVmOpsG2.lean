/- Slices whose elements an object holds: appends, elements, stores. -/
import Derived.Test.YtjagieigmleneajGreatDoorVmOpsG
import Derived.Test.YtjagieigmleneajGreatDoorVmOps8
namespace Go.VM
section
variable {P : Program} {T : TT} {A : Nat → Prop} {g : Gh} {st : St} {w : World}

theorem gsPut_sound {C : Caller} {t xt ty e : TypeId} {i : TI} (he : Elem P T t xt e i) {s r : AV} {sv x : Value} {c : Nat} {kn : List AV} {news vals : List Value} {p : Plan} {fx : Fx}
    (hp : gsPutP i e s c kn = .ok p) (hrun : runPlan C st p = .ok (r, fx)) (hs : R g s sv) (hx : Src P i.size x c news w) (hc0 : 0 < c) (hkn : Known g i.size c kn news vals) (h : Inv T A g st w) :
    Gives P T A g w r (fx.did.app st) (Builtin.append_ #[t, xt] ty #[sv, x]) := by
  unfold gsPutP at hp
  split at hp
  · -- to nil
    split at hp
    · rename_i hroom
      cases hp
      simp only [runPlan, Except.ok.injEq, Prod.mk.injEq] at hrun
      obtain ⟨rfl, rfl⟩ := hrun
      simp only [R] at hs
      subst hs
      have hnil : Src P i.size (.slice none 0 0) 0 [] w := ⟨by simp [Builtin.lenOf], by simp [Builtin.firstCells], by simp [Builtin.firstCells], by simp⟩
      have := grow_new (ty := ty) (es := []) he hnil hx (by omega) (by rw [Nat.zero_add]; exact hroom) h rfl (fun _ h => by cases h) rfl RL_nil (fun _ h => by cases h) hkn
      rw [Nat.zero_add] at this
      exact this
    · cases hp
  · rename_i z es
    split at hp
    · rename_i hroom
      simp only [Bool.and_eq_true] at hroom
      obtain ⟨hroom, hzz⟩ := hroom
      have hzz := Nat.eq_of_beq_eq_true hzz
      subst hzz
      cases hp
      simp only [runPlan, Except.ok.injEq, Prod.mk.injEq] at hrun
      obtain ⟨rfl, rfl⟩ := hrun
      simp only [R] at hs
      obtain ⟨hb0, b, o, cap, rfl, hcap, hz1, hes, hperm⟩ := hs
      have hcap' : cap = es.length := hperm
      subst hcap'
      have hes' := hes
      rw [RAtE_iff] at hes'
      obtain ⟨xs, x1, x2⟩ := RAt_vals hes'.2
      have hl : xs.length = es.length * i.size := by rw [RL_len x1, flat_length hes'.1]
      have hfirst : ∀ w' : World, (∀ b o, w'.cell? ⟨b, o, none⟩ = w.cell? ⟨b, o, none⟩) → (Builtin.firstCells i.size es.length (.slice (some ⟨b, o, none⟩) es.length es.length)).run P w' = .ok xs.toArray w' := fun w' hw' =>
        run_firstCells_some (P := P) w' i.size es.length ⟨b, o, none⟩ es.length es.length xs hl (fun j v hv => by
          rw [Addr.add_at, hw']
          exact h.F _ _ _ (x2 j v hv).1)
      have hsrc : Src P i.size (.slice (some ⟨b, o, none⟩) es.length es.length) es.length xs w := ⟨by simp [Builtin.lenOf], hfirst w fun _ _ => rfl, hfirst w.drew fun _ _ => rfl, hl⟩
      exact grow_new (ty := ty) he hsrc hx (by omega) hroom h rfl hes'.1 hb0 x1 (fun v hv => by
        obtain ⟨j, hj⟩ := List.getElem?_of_mem hv
        exact (x2 j v hj).2) hkn
    · cases hp
  · rename_i z es k
    split at hp
    · rename_i hroom
      simp only [Bool.and_eq_true] at hroom
      obtain ⟨hroom, hzz⟩ := hroom
      have hzz := Nat.eq_of_beq_eq_true hzz
      subst hzz
      cases hp
      simp only [runPlan, bind_ok, pure_ok] at hrun
      obtain ⟨ob, h1, ⟨v', o'⟩, h2, dd, h5, h6⟩ := hrun
      split at h2
      · rename_i n e'
        split at h2
        · rename_i hcond
          simp only [Bool.and_eq_true] at hcond
          have hn := Nat.eq_of_beq_eq_true hcond.1
          have he' := Nat.eq_of_beq_eq_true hcond.2
          subst hn he'
          cases h2
          simp only [didOf] at h5
          split at h5
          · cases h5
          · rename_i hro
            cases h5
            cases h6
            rw [blt_false] at hro
            simp only [R] at hs
            obtain ⟨hb0, b, o, cap, rfl, hcap, hz1, hes, rfl, loc, hE, hl⟩ := hs
            obtain ⟨vs, fz, hS⟩ := slot_tok h h1 he.get hE hl hb0 hes
            exact grow_old (ty := ty) he h1 (by omega) hS hx hc0 hkn hroom h
        · cases h2
      · cases h2
    · cases hp
  · rename_i k z n
    split at hp
    · rename_i hroom
      simp only [Bool.and_eq_true] at hroom
      obtain ⟨hroom, hzz⟩ := hroom
      have hzz := Nat.eq_of_beq_eq_true hzz
      subst hzz
      cases hp
      simp only [runPlan, bind_ok, pure_ok] at hrun
      obtain ⟨ob, h1, ⟨v', o'⟩, h2, dd, h5, h6⟩ := hrun
      split at h2
      · rename_i m e' z' es
        split at h2
        · rename_i hcond
          simp only [Bool.and_eq_true] at hcond
          have hm := Nat.eq_of_beq_eq_true hcond.1.1
          have hn := Nat.eq_of_beq_eq_true hcond.1.2
          have he' := Nat.eq_of_beq_eq_true hcond.2.1
          subst hm hn he'
          cases h2
          simp only [didOf] at h5
          split at h5
          · cases h5
          · rename_i hro
            cases h5
            cases h6
            rw [blt_false] at hro
            simp only [R] at hs
            obtain ⟨loc', b', cap', hE, hl, rfl, hcap, hz1⟩ := hs
            obtain ⟨rfl, loc, b, cap, vs, fz, hS⟩ := slot_grow h h1 he.get
            have e1 := hS.s_E.symm.trans hE
            simp only [Option.some.injEq, Ent.tok.injEq] at e1
            subst e1
            have e2 := hS.s_loc.symm.trans hl
            simp only [Option.some.injEq, Prod.mk.injEq] at e2
            obtain ⟨rfl, rfl⟩ := e2
            exact grow_old (ty := ty) he h1 (by omega) hS hx hc0 hkn hroom h
        · cases h2
      · cases h2
    · cases hp
  · cases hp

theorem gsAppend_sound {C : Caller} {t xt ty e : TypeId} {i : TI} (he : Elem P T t xt e i) {s x r : AV} {sv xv : Value} {new : List AV} {p : Plan} {fx : Fx} (hev : elemsV x = some new)
    (hp : gsAppendP i e s new = .ok p) (hrun : runPlan C st p = .ok (r, fx)) (hs : R g s sv) (hx : R g x xv) (h : Inv T A g st w) :
    Gives P T A g w r (fx.did.app st) (Builtin.append_ #[t, xt] ty #[sv, xv]) := by
  unfold gsAppendP at hp
  split at hp
  · cases hp
  · rename_i v l
    simp only [bind_ok] at hp
    obtain ⟨new', hf, hp⟩ := hp
    split at hp
    · cases hp
    · rename_i hall
      have hc := all_len hall
      obtain ⟨news, s1, s2, s3, s4, s5⟩ := src_sound (P := P) hx hev hf hc (by simp) h
      have hpos : 0 < new'.length := by rw [s5]; simp
      split at hp
      · exact gsPut_sound he hp hrun hs s1 hpos (Known.none s4) h
      · exact gsPut_sound he hp hrun hs s1 hpos (Known.all rfl hc s3 s2 s4) h

/-- An element of a slice that an object holds. -/
theorem gsIndex_sound (hT : TOk P T) {C : Caller} {t : TypeId} {k z n : Nat} {i r : AV} {sv iv : Value} {p : Plan} {fx : Fx} (hp : gsIndexP T t k z n i = .ok p) (hrun : runPlan C st p = .ok (r, fx))
    (hs : R g (.gs k z n) sv) (hy : R g i iv) (h : Inv T A g st w) : Gives P T A g w r (fx.did.app st) (Instr.indexAt t sv iv) := by
  simp only [gsIndexP, bind_ok] at hp
  obtain ⟨j, hj, j', hj', it, h1, h2⟩ := hp
  obtain ⟨kd, rfl⟩ := asInt_R hj hy
  obtain ⟨rfl, hlt⟩ := inside_ok hj'
  have hit := hT t it (ti_ok.1 h1)
  split at h2
  · rename_i e hund
    have k1 := und_slice hit hund
    simp only [bind_ok] at h2
    obtain ⟨ie, h3, h4⟩ := h2
    have hie := hT _ ie (ti_ok.1 h3)
    split at h4
    · rename_i hz
      have hz := Nat.eq_of_beq_eq_true hz
      cases h4
      simp only [readP, runPlan, bind_ok, pure_ok] at hrun
      obtain ⟨ob, h5, ⟨v', o'⟩, ⟨v2, h6, h7⟩, dd, h8, h9⟩ := hrun
      cases h7
      simp only [didOf, Except.ok.injEq] at h8
      subst h8
      cases h9
      simp only [R] at hs
      obtain ⟨loc, b, cap, hE, hl, rfl, hcap, hz1⟩ := hs
      split at h6
      · rename_i m e' z' es
        split at h6
        · rename_i hcond
          simp only [Bool.and_eq_true] at hcond
          have hm := Nat.eq_of_beq_eq_true hcond.1
          have hzz := Nat.eq_of_beq_eq_true hcond.2
          subst hm hzz
          obtain ⟨loc2, b2, cap2, i2, vs, fz, q1, q2, q3, q4, q5, q6, q7, q8, q9, q10, q11, q12, q13, q14⟩ := h.H k _ h5
          have e1 := q1.symm.trans hE
          simp only [Option.some.injEq, Ent.tok.injEq] at e1
          subst e1
          have e2 := q2.symm.trans hl
          simp only [Option.some.injEq, Prod.mk.injEq] at e2
          obtain ⟨rfl, rfl⟩ := e2
          split at h6
          · simp only [bind_ok, pure_ok] at h6
            obtain ⟨u, h7, rfl⟩ := h6
            obtain ⟨d1, d2⟩ := RAtE_nth q14 h7
            refine Gives.of h (x := .pointer (some ⟨b2, 0 + j' * z', none⟩)) ?_ ?_
            · simp [Instr.indexAt, asIntOf, k1, hie.run_size, Addr.add_at, hz]
              intro hh; omega
            · simp only [R]
              exact ⟨bares_cells (bares_nth q13 h7), b2, _, rfl, d2⟩
          · cases h6
            refine Gives.of h (x := .pointer (some ⟨b2, 0 + j' * z', none⟩)) ?_ ?_
            · simp [Instr.indexAt, asIntOf, k1, hie.run_size, Addr.add_at, hz]
              intro hh; omega
            · simp only [R]
              exact ⟨loc2, b2, cap2, q1, q2, by rw [Nat.zero_add]⟩
        · cases h6
      · cases h6
    · cases h4
  · cases h2

theorem gpStore_sound {C : Caller} {t : TypeId} {i : TI} (hi : TIOk P t i) {k m off : Nat} {v r : AV} {x y : Value} {p : Plan} {fx : Fx} (hp : gpStoreP i k m off v = .ok p) (hrun : runPlan C st p = .ok (r, fx))
    (hx : R g (.gp k m off) x) (hy : R g v y) (h : Inv T A g st w) : r = undef ∧ GivesU P T A g w (fx.did.app st) (Instr.storeAt t x y) := by
  unfold gpStoreP at hp
  split at hp
  · rename_i hc
    simp only [Bool.and_eq_true] at hc
    have hlen := Nat.eq_of_beq_eq_true hc.1
    simp only [bind_ok, pure_ok] at hp
    obtain ⟨v', hf, rfl⟩ := hp
    simp only [runPlan, bind_ok, pure_ok] at hrun
    obtain ⟨ob, h1, ⟨u, o'⟩, h2, dd, h5, h6⟩ := hrun
    split at h2
    · rename_i n e z es
      split at h2
      · rename_i hcond
        simp only [Bool.and_eq_true] at hcond
        have c1 := Nat.eq_of_beq_eq_true hcond.1.1
        have c2 := Nat.eq_of_beq_eq_true hcond.1.2
        have c3 := Nat.eq_of_beq_eq_true hcond.2.1
        have c4 := Nat.eq_of_beq_eq_true hcond.2.2
        subst c1 c3
        cases h2
        simp only [didOf] at h5
        split at h5
        · cases h5
        · rename_i hro
          cases h5
          cases h6
          rw [blt_false] at hro
          refine ⟨rfl, ?_⟩
          simp only [R] at hx
          obtain ⟨loc, b, cap, hE, hl, rfl⟩ := hx
          obtain ⟨loc2, b2, cap2, i2, vs, fz, q1, q2, q3, q4, q5, q6, q7, q8, q9, q10, q11, q12, q13, q14⟩ := h.H k _ h1
          have e1 := q1.symm.trans hE
          simp only [Option.some.injEq, Ent.tok.injEq] at e1
          subst e1
          have e2 := q2.symm.trans hl
          simp only [Option.some.injEq, Prod.mk.injEq] at e2
          obtain ⟨rfl, rfl⟩ := e2
          subst q11
          have hyc := R_cells hy hc.2
          obtain ⟨ys, hys⟩ : ∃ ys, y.cells.toList = ys := ⟨_, rfl⟩
          rw [hys] at hyc
          have hyl := RL_len hyc
          have hyo := ones_RL hc.2 hyc
          obtain ⟨fc1, fc2, fc3⟩ := fit_cells hf hyc
          have hbnd : es.length * i2.size + ys.length ≤ vs.size := by
            rw [q8, hyl, hlen, ← c4]
            have := Nat.mul_le_mul_right i2.size (show es.length + 1 ≤ cap2 by omega)
            rw [Nat.add_mul, Nat.one_mul] at this
            exact this
          have hat0 : At g k (.grow n e i2.size es) b2 := ⟨loc2, cap2, q1, q2⟩
          have hst := run_storeCells_fz (P := P) b2 (es.length * i2.size) e fz ys 0 vs w q7 (by simpa using hbnd) (by simpa using q9) hyo
          simp only [Nat.add_zero] at hst
          generalize hrow : vs.toList.take (es.length * i2.size) ++ ys ++ vs.toList.drop (es.length * i2.size + ys.length) = row at hst
          have hrowl : row.length = vs.size := by
            rw [← hrow]; simp; omega
          have hpre : ∀ j, j < es.length * i2.size → row[j]? = vs[j]? := fun j hj => by
            rw [← hrow, List.append_assoc, List.getElem?_append_left (by simp; omega), List.getElem?_take, if_pos hj]
            simp
          have hmid : ∀ j v, ys[j]? = some v → row[es.length * i2.size + j]? = some v := fun j v hv => by
            have hj : j < ys.length := by
              rcases Nat.lt_or_ge j ys.length with q | q
              · exact q
              · simp [List.getElem?_eq_none q] at hv
            have htl : (vs.toList.take (es.length * i2.size)).length = es.length * i2.size := by
              have hvs : vs.toList.length = vs.size := rfl
              rw [List.length_take, hvs]; omega
            rw [← hrow, List.append_assoc, List.getElem?_append_right (by rw [htl]; omega), htl, List.getElem?_append_left (by omega)]
            rw [show es.length * i2.size + j - es.length * i2.size = j by omega]; exact hv
          have hheap : (w.setRow b2 row.toArray).heap[b2]? = some (.cells row.toArray e fz) := setRow_heap _ _ _ _ _ _ q7
          have hMn : g.M b2 = none := by
            cases hm : g.M b2 with
            | none => rfl
            | some ee =>
              have := h.M b2 ee.1 ee.2 hm
              rw [q7] at this; cases this
          have i1 : Inv T A g (st.put k (.grow n e i2.size es)) (w.setRow b2 row.toArray) := h.write h1 hat0 (.grow n e i2.size es) (setRow_size _ _ _) (fun _ hb => setRow_ne _ _ _ hb)
            (fun j v hv => by
              have hj : j < es.length * i2.size := by
                rcases Nat.lt_or_ge j (es.length * i2.size) with q | q
                · exact q
                · rw [q10 j q] at hv; cases hv
              have := h.F b2 j v hv
              rw [cell_of q7] at this
              rw [cell_of hheap, List.getElem?_toArray, hpre j hj]; exact this) hMn (fun b' hb' => At_grow q1 q2 hb')
            ⟨loc2, b2, cap2, i2, row.toArray, fz, q1, q2, q3, q4, q5, q6, hheap, by simpa [hrowl] using q8, q9, q10, rfl, q12, q13, q14⟩
          have kp1 : Kp A g w g (w.setRow b2 row.toArray) := Kp.write (h.own k _ b2 h1 hat0 (by omega)) (setRow_size _ _ _) (fun _ hb => setRow_ne _ _ _ hb)
          have hk' : (st.put k (.grow n e i2.size es)).get k = .ok (.grow n e i2.size es) := St.get_put_same (St.get_ok.1 h1).1
          have hle : Le g ((g.addF b2 (es.length * i2.size) ys).setE k (.tok loc2)) := by
            refine (Le.addF fun o' ho' _ => q10 o' ho').trans ⟨fun _ _ _ x => x, fun _ _ x => x, fun j b x => ?_, fun j l x => ?_⟩
            · have : j ≠ k := fun e => by subst e; have := q1.symm.trans x; cases this
              rw [Gh.setE_ne _ _ this]; exact x
            · by_cases hj : j = k
              · subst hj
                have x' : g.E j = some (.tok l) := x
                have := q1.symm.trans x'
                simp only [Option.some.injEq, Ent.tok.injEq] at this
                subst this
                exact ⟨_, Gh.setE_same _ _ _, fun _ _ hy => hy⟩
              · exact ⟨l, by rw [Gh.setE_ne _ _ hj]; exact x, fun _ _ y => y⟩
          have hvl : v'.cells.length = i2.size := by rw [fc3, hlen, c4]
          obtain ⟨i2', kp2⟩ := i1.remake (o1 := .grow n e i2.size (es ++ [v'])) (loc' := loc2) b2 (es.length * i2.size) ys hk' q1 (fun _ _ hy => hy) (fun o' ho' _ => q10 o' ho')
            (fun j u hu => by
              rw [cell_of hheap, List.getElem?_toArray]
              exact hmid j u hu)
            (fun id o' hid hne ha => by
              rw [St.get_put_ne (fun e => hne e.symm)] at hid
              exact hne (h.D id k o' _ b2 hid h1 ha hat0)) (h.own k _ b2 h1 hat0 (by omega))
            (fun b' hb' => At_grow (Gh.setE_same _ _ _) q2 hb')
            ⟨loc2, b2, cap2, i2, row.toArray, fz, Gh.setE_same _ _ _, q2, q3, q4, q5, q6, hheap, by simpa [hrowl] using q8,
              Nat.le_trans q9 (Nat.mul_le_mul_right _ (by simp)), fun o' ho' => by
                show (g.addF b2 (es.length * i2.size) ys).F b2 o' = none
                simp only [List.length_append, List.length_cons, List.length_nil, Nat.zero_add] at ho'
                rw [Nat.add_mul, Nat.one_mul] at ho'
                rw [Gh.addF_other _ _ _ _ (by rw [hyl, hlen, ← c4]; omega)]
                exact q10 o' (by omega), rfl, by simp; omega, by rw [bares_append, q13]; show (VM.bare v' && true) = true; rw [fc2]; rfl, by
                rw [RAtE_append]
                refine ⟨RAtE_mono hle _ _ _ _ q14, ?_⟩
                rw [RAtE_iff]
                refine ⟨fun u hu => by simp only [List.mem_singleton] at hu; subst hu; exact hvl, ?_⟩
                rw [show flat [v'] = v'.cells by simp [flat]]
                exact RAt_of_vals (RL_mono hle _ _ fc1) fun j u hu => ⟨by rw [Nat.zero_add]; exact Gh.addF_at g b2 (es.length * i2.size) ys j u hu, hyo u (List.mem_of_getElem? hu)⟩⟩
          have hput : (st.put k (.grow n e i2.size es)).put k (.grow n e i2.size (es ++ [v'])) = st.put k (.grow n e i2.size (es ++ [v'])) := by
            simp only [St.put, Tr.put, Tr.set_set]
          rw [hput] at i2'
          refine ⟨_, _, ?_, i2', kp1.trans kp2⟩
          simp only [Instr.storeAt, Instr.sureAddr, Sem.run_bind, Sem.run_pure, Result.andThen_ok, storeVar, hi.run_size, Sem.run_ite]
          have hysz : y.cells.size = ys.length := by rw [← hys]; exact (Array.length_toList).symm
          rw [if_neg (by omega)]
          show (storeCells _ y.cells.toList).run P w = _
          rw [hys]
          exact hst
      · cases h2
    · cases h2
  · cases hp
end
end Go.VM
