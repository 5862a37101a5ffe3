/-
  A part of the proof.
-/
import Derived.Test.YtkknkhniadiapaaDoorVmBI
import Derived.DataShut
namespace Go.VM
open Go.RowKit Go.ChangeShapes
section
variable {H : Type} {enc : TypeId × Value → H} {P : Program} {W W' : World} {sp : Nat → Bool} {held : Bool} {S : List TypeId}
theorem cell_keep (hB : Below W.heap.size W W') {a : Addr} {v : Value} (h : W.cell? a = some v) : W'.cell? a = some v := by
  have hlt : a.block < W.heap.size := by
    unfold World.cell? at h
    split at h
    · rename_i e
      exact (Array.getElem?_eq_some_iff.1 e).1
    · cases h
  unfold World.cell?
  rw [hB.block _ hlt]
  exact h
theorem cells_keep (hB : Below W.heap.size W W') {a : Addr} {n : Nat} {cs : List Value} (h : W.cells? 0 a n = some cs) : W'.cells? 0 a n = some cs := by
  obtain ⟨h1, h2, h3⟩ := World.cells?_some h
  refine World.cells?_of_each h1 h2 fun i hi => ?_
  have := h3 i hi
  rw [List.getElem?_eq_getElem (by omega)] at this ⊢
  exact cell_keep hB this
theorem parts_keep {n : Nat} (ih : ∀ t cs d ps, inS S t = true → DataW.trod enc P W 0 (fun _ => true) held n t cs = some (d, ps) → (∀ p ∈ ps, sp p.block = true) → DataW.trod enc P W' 0 sp held n t cs = some (d, ps)) :
    ∀ (fs : List Field) (cs : List Value) (xs : List (DataW H × List MemPlace)), (fs.all fun f => inS S f.type) = true →
      (fs.mapM fun f => DataW.trod enc P W 0 (fun _ => true) held n f.type ((cs.drop f.offset).take (P.cellsOf f.type))) = some xs → (∀ p ∈ xs.flatMap (·.2), sp p.block = true) →
      (fs.mapM fun f => DataW.trod enc P W' 0 sp held n f.type ((cs.drop f.offset).take (P.cellsOf f.type))) = some xs
  | [], cs, xs, _, h, _ => by simpa using h
  | f :: fs, cs, xs, hin, h, hp => by
    simp only [List.all_cons, Bool.and_eq_true] at hin
    simp only [List.mapM_cons, Option.bind_eq_bind, Option.bind_eq_some_iff, Option.pure_def, Option.some.injEq] at h ⊢
    obtain ⟨⟨d, ps⟩, h1, ys, h2, rfl⟩ := h
    simp only [List.flatMap_cons, List.mem_append] at hp
    exact ⟨(d, ps), ih _ _ _ _ hin.1 h1 fun p hm => hp p (.inl hm), ys, parts_keep ih fs cs ys hin.2 h2 fun p hm => hp p (.inr hm), rfl⟩
theorem elems_keep (hB : Below W.heap.size W W') {n : Nat} {e : TypeId} {a : Addr} (ih : ∀ cs d ps, DataW.trod enc P W 0 (fun _ => true) held n e cs = some (d, ps) → (∀ p ∈ ps, sp p.block = true) → DataW.trod enc P W' 0 sp held n e cs = some (d, ps)) (off : Nat) :
    ∀ (l : List Nat) (xs : List (DataW H × List MemPlace)), (l.mapM fun i => (W.cells? 0 (a.add ((off + i) * P.cellsOf e)) (P.cellsOf e)).bind (DataW.trod enc P W 0 (fun _ => true) held n e)) = some xs → (∀ p ∈ xs.flatMap (·.2), sp p.block = true) →
      (l.mapM fun i => (W'.cells? 0 (a.add ((off + i) * P.cellsOf e)) (P.cellsOf e)).bind (DataW.trod enc P W' 0 sp held n e)) = some xs
  | [], xs, h, _ => by simpa using h
  | i :: l, xs, h, hp => by
    simp only [List.mapM_cons, Option.bind_eq_bind, Option.bind_eq_some_iff, Option.pure_def, Option.some.injEq] at h ⊢
    obtain ⟨⟨d, ps⟩, ⟨cs, h0, h1⟩, ys, h2, rfl⟩ := h
    simp only [List.flatMap_cons, List.mem_append] at hp
    exact ⟨(d, ps), ⟨cs, cells_keep hB h0, ih _ _ _ h1 fun p hm => hp p (.inl hm)⟩, ys, elems_keep hB ih off l ys h2 fun p hm => hp p (.inr hm), rfl⟩
theorem trod_keep (hB : Below W.heap.size W W') (hS : ∀ t, inS S t = true → okTy P S t = true) : ∀ (n : Nat) (t : TypeId) (cs : List Value) (d : DataW H) (ps : List MemPlace), inS S t = true →
    DataW.trod enc P W 0 (fun _ => true) held n t cs = some (d, ps) → (∀ p ∈ ps, sp p.block = true) → DataW.trod enc P W' 0 sp held n t cs = some (d, ps)
  | 0, _, _, _, _, _, h, _ => by simp [DataW.trod] at h
  | n + 1, t, cs, d, ps, hin, h, hp => by
    have hok := hS t hin
    unfold okTy at hok
    simp only [DataW.trod] at h ⊢
    split at h
    · exact h
    · exact h
    · rename_i hu; rw [hu] at hok; cases hok
    · exact h
    · rename_i hu; rw [hu] at hok; cases hok
    · rename_i hu; rw [hu] at hok; cases hok
    · exact h
    · rename_i e a len cap hu
      rw [hu] at hok
      simp only [Bool.and_eq_true] at hok
      obtain ⟨hc, he, hz⟩ := hok
      have hz := Nat.le_of_ble_eq_true hz
      split at h
      · rename_i hb
        rw [if_pos hb]
        simp only [Option.bind_eq_some_iff, Option.map_eq_some_iff] at h ⊢
        obtain ⟨elems, hel, rest, hrest, hd⟩ := h
        simp only [Prod.mk.injEq] at hd
        obtain ⟨hd1, hd2⟩ := hd
        have hpl : ∀ p ∈ (elems ++ rest).flatMap (·.2), sp p.block = true := fun p hm => hp p (by rw [← hd2]; exact List.mem_append.2 (.inr hm))
        simp only [List.flatMap_append, List.mem_append] at hpl
        have ih := fun cs d ps => trod_keep hB hS n e cs d ps he
        have h1 := elems_keep (sp := sp) (W' := W') hB (e := e) (a := a) ih 0 (List.range len) elems (by simpa using hel) (fun p hm => hpl p (.inl hm))
        refine ⟨elems, by simpa using h1, rest, ?_, by rw [← hd1, ← hd2]⟩
        rw [if_pos trivial] at hrest
        by_cases hcap : cap - len = 0
        · rw [hcap] at hrest ⊢
          have : rest = [] := by simpa using hrest.symm
          subst this
          split <;> simp
        · have hsp : sp a.block = true := by
            have hlr := mapM_some_length hrest
            rw [List.length_range] at hlr
            refine hp (.cell a.block (a.off + 0)) ?_
            rw [← hd2]
            refine List.mem_append.2 (.inl ?_)
            unfold MemPlace.row
            refine List.mem_map.2 ⟨0, List.mem_range.2 ?_, rfl⟩
            exact Nat.mul_pos (by omega) hz
          rw [hsp, if_pos rfl]
          exact elems_keep (sp := sp) (W' := W') hB (e := e) (a := a) ih len _ rest hrest (fun p hm => hpl p (.inr hm))
      · cases h
    · rename_i _ fs hu
      rw [hu] at hok
      simp only [Bool.and_eq_true] at hok
      split at h
      · rename_i hl
        rw [if_pos hl]
        simp only [Option.map_eq_some_iff] at h ⊢
        obtain ⟨xs, hxs, hd⟩ := h
        simp only [Prod.mk.injEq] at hd
        refine ⟨xs, parts_keep (trod_keep hB hS n) fs.toList _ xs hok.1 hxs fun p hm => hp p (by rw [← hd.2]; exact hm), by rw [← hd.1, ← hd.2]⟩
      · cases h
    all_goals first | (cases h; done) | skip
    all_goals (rename_i hu; first | (rw [hu] at hok; cases hok; done) | skip)
theorem trodAll_keep (hB : Below W.heap.size W W') (hS : ∀ t, inS S t = true → okTy P S t = true) : ∀ {ts : List TypeId} {vs : List Value} {ds : List (DataW H)} {ps : List MemPlace}, (ts.all fun t => inS S t) = true →
    DataW.TrodAll enc P W 0 (fun _ => true) held ts vs ds ps → (∀ p ∈ ps, sp p.block = true) → DataW.TrodAll enc P W' 0 sp held ts vs ds ps
  | [], [], [], ps, _, h, _ => h
  | t :: ts, v :: vs, d :: ds, ps, hin, h, hp => by
    simp only [List.all_cons, Bool.and_eq_true] at hin
    obtain ⟨p, q, ⟨fuel, h1⟩, h2, rfl⟩ := h
    exact ⟨p, q, ⟨fuel, trod_keep hB hS fuel t _ d p hin.1 h1 fun x hx => hp x (List.mem_append.2 (.inl hx))⟩, trodAll_keep hB hS hin.2 h2 fun x hx => hp x (List.mem_append.2 (.inr hx)), rfl⟩
  | [], _ :: _, _, _, _, h, _ | [], [], _ :: _, _, _, h, _ | _ :: _, [], _, _, _, h, _ | _ :: _, _ :: _, [], _, _, h, _ => by simp [DataW.TrodAll] at h
end
section
variable {H : Type} {enc : TypeId × Value → H} {P : Program} {w : World} {held : Bool} {S : List TypeId}
theorem arg_of (hS : ∀ t, inS S t = true → okTy P S t = true) {t : TypeId} {v : Value} {d : DataW H} {p : List MemPlace} {r : Reach} {base : Nat} (hin : inS S t = true) (hv : Value.okWide P w r base t v)
    (h : DataW.Trod enc P w 0 (fun _ => true) held t v d p) : ∃ n az, AvOf P n t az ∧ R (oldGh w) (mkV (isSt P t) az) v ∧ VM.bare (mkV (isSt P t) az) = true ∧ strip (mkV (isSt P t) az) = mkV (isSt P t) az := by
  obtain ⟨n, h⟩ := h
  obtain ⟨az, hA, hI⟩ := av_of (fun _ => rfl) hS n t _ d p hin h
  have hb := mkV_bare (agg := isSt P t) hI.bare hI.agg
  have hok := hS t hin
  unfold okTy at hok
  unfold Value.okWide at hv
  have one : isSt P t = false → (∀ cs, v ≠ .agg cs) → ∃ n az, AvOf P n t az ∧ R (oldGh w) (mkV (isSt P t) az) v ∧ VM.bare (mkV (isSt P t) az) = true ∧ strip (mkV (isSt P t) az) = mkV (isSt P t) az := by
    intro hst hno
    have hc : v.cells.toList = [v] := by
      cases v <;> first | rfl | exact absurd rfl (hno _)
    have hl := hI.agg hst
    match az, hl, hA, hI, hb with
    | [a], _, hA, hI, hb =>
      refine ⟨n, [a], hA, ?_, hb, ?_⟩
      · have hr := hI.rel
        rw [hc] at hr
        obtain ⟨x, xs, e, hr, _⟩ := hr
        cases e
        rw [hst]; exact hr
      · rw [hst] at hb ⊢
        show strip a = a
        have hb : VM.bare a = true := hb
        cases a with
        | sl z e pm => cases pm with
          | own k => cases hb
          | _ => rfl
        | _ => rfl
  split at hv
  · rename_i fs hu
    obtain ⟨cs, rfl, _, _⟩ := hv
    have hst : isSt P t = true := by simp [isSt, hu]
    refine ⟨n, az, hA, ?_, hb, ?_⟩
    · rw [hst]
      simp only [mkV, R]
      exact ⟨cs, rfl, hI.rel⟩
    · rw [hst]; rfl
  · rename_i hu
    rw [hu] at hok; cases hok
  · rename_i h1 h2
    have hst : isSt P t = false := by
      unfold isSt
      split
      · rename_i fs hu; exact absurd hu (h1 fs)
      · rfl
    refine one hst ?_
    rintro cs rfl
    unfold Cell.okWide at hv
    split at hv
    all_goals first
      | (rename_i hu; rw [hu] at hok; cases hok; done)
      | (rename_i hx; cases hx; done)
      | skip
    all_goals (unfold Cell.ok at hv; split at hv)
    all_goals first
      | (cases hv; done)
      | (rename_i hx; cases hx; done)
      | skip
end
theorem trodAll_inv {H : Type} {enc : TypeId × Value → H} {P : Program} {w : World} {b : Nat} {sp : Nat → Bool} {held : Bool} {t : TypeId} {ts : List TypeId} {vs : List Value} {ds : List (DataW H)} {ps : List MemPlace} (h : DataW.TrodAll enc P w b sp held (t :: ts) vs ds ps) :
    ∃ v vs' d ds' p q, vs = v :: vs' ∧ ds = d :: ds' ∧ DataW.Trod enc P w b sp held t v d p ∧ DataW.TrodAll enc P w b sp held ts vs' ds' q ∧ ps = p ++ q := by
  match vs, ds, h with
  | v :: vs', d :: ds', h =>
    obtain ⟨p, q, h1, h2, rfl⟩ := h
    exact ⟨v, vs', d, ds', p, q, rfl, rfl, h1, h2, rfl⟩
theorem law_runs {P : Program} {E : Env} (hE : EnvOk P E) {f : FuncId} {args : List AV} (hrun : (orc E).bare f args = some (.bool true))
    (hcall : ∀ args w, (callFunc f args).run P w = .ok (.enter f args) w) {w : World} (hG : TabsAny E.G w) {xs : Array Value} (hb : bares args = true) (hr : RL (oldGh w) args xs.toList) :
    Calls P f xs w fun e w' => e = .returned (.bool true) ∧ Below w.heap.size w w' := by
  obtain ⟨m, hm⟩ := (orc_ok E).bare _ _ _ hrun
  refine (closedArgs hE (hm m (Nat.le_refl _)) hcall hG hb hr).mono ?_
  rintro e w' ⟨x, g, rfl, hx, hbel⟩
  simp only [R] at hx
  subst hx
  exact ⟨rfl, hbel⟩
end Go.VM
