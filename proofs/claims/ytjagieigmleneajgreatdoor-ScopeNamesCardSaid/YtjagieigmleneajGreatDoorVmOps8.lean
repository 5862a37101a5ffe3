/- Append, from whatever source. -/
import Derived.Test.YtjagieigmleneajGreatDoorVmOps7
namespace Go.VM
section
variable {P : Program} {T : TT} {A : Nat → Prop} {g : Gh} {st : St} {w : World}

theorem flat_ofBytes (s : List UInt8) : flat (ofBytes s) = ofBytes s := by
  unfold ofBytes
  induction s with
  | nil => rfl
  | cons b s ih => rw [List.map_cons, flat_cons, ih]; rfl
theorem RL_bytes (s : List UInt8) : RL g (ofBytes s) (s.map fun b => Value.int .u8 b.toNat) := by
  unfold ofBytes
  induction s with
  | nil => simp [RL]
  | cons b s ih => exact RL_cons (by simp only [R]) ih

theorem all_len {new : List AV} {z : Nat} (h : new.all (fun v => v.cells.length.beq z) = true) : ∀ v ∈ new, v.cells.length = z := by
  intro v hv
  exact Nat.eq_of_beq_eq_true (List.all_eq_true.1 h v hv)

/-- The source of an append. -/
theorem src_sound {x : Value} {s : AV} {new new' : List AV} {z : Nat} (hx : R g s x) (he : elemsV s = some new) (hf : fits new = .ok new') (hc : ∀ v ∈ new', v.cells.length = z) (hne : new ≠ []) (h : Inv T A g st w) :
    ∃ news, Src P z x new'.length news w ∧ RL g (flat new') news ∧ bares new' = true ∧ (∀ v ∈ news, v.oneCell' = true) ∧ new'.length = new.length := by
  cases s <;> simp only [elemsV, Option.some.injEq] at he <;> (try (cases he; done))
  · -- a string
    rename_i s
    subst he
    simp only [R] at hx
    subst hx
    obtain ⟨k1, k2, k3, k4⟩ := fits_flat (g := g) hf (xs := s.map fun b => Value.int .u8 b.toNat) (by rw [flat_ofBytes]; exact RL_bytes s)
    have hl : new'.length = s.length := by rw [k3]; simp [ofBytes]
    have hz : z = 1 := by
      cases new' with
      | nil =>
        have : s = [] := List.eq_nil_of_length_eq_zero (by simpa using hl.symm)
        subst this
        exact absurd rfl hne
      | cons v l =>
        have := hc v (by simp)
        cases s with
        | nil => simp [ofBytes] at hne
        | cons b s =>
          simp only [ofBytes, List.map_cons, List.cons.injEq] at k4
          have : v.cells.length = 1 := k4.1
          omega
    subst hz
    have hfirst : ∀ w', (Builtin.firstCells 1 new'.length (.string ⟨s.toArray⟩)).run P w' = .ok (s.map fun b => Value.int .u8 b.toNat).toArray w' := fun w' => by
      simp only [Builtin.firstCells, Sem.run_pure, hl]
      congr 1
      apply Array.ext'
      simp [ByteArray.data_extract]
    refine ⟨_, ⟨by simp [Builtin.lenOf, str_size, hl], hfirst w, hfirst w.drew, by simp [hl]⟩, k1, k2, fun v hv => ?_, k3⟩
    simp only [List.mem_map] at hv
    obtain ⟨b, _, rfl⟩ := hv
    rfl
  · subst he; exact absurd rfl hne
  · rename_i z' es p
    subst he
    simp only [R] at hx
    obtain ⟨hb, b, o, cap, rfl, hcap, hz1, hr, hp⟩ := hx
    rw [RAtE_iff] at hr
    obtain ⟨xs, x1, x2⟩ := RAt_vals hr.2
    obtain ⟨k1, k2, k3, k4⟩ := fits_flat hf x1
    have hz : z' = z := by
      cases hes : es with
      | nil => exact absurd hes hne
      | cons v l =>
        cases hn : new' with
        | nil => rw [hn, hes] at k3; simp at k3
        | cons v' l' =>
          rw [hn, hes] at k4
          simp only [List.map_cons, List.cons.injEq] at k4
          have h1 := hc v' (by rw [hn]; simp)
          have h2 := hr.1 v (by rw [hes]; simp)
          omega
    subst hz
    have hl : xs.length = new'.length * z' := by rw [RL_len x1, flat_length hr.1, k3]
    have hfirst : ∀ w' : World, (∀ b o, w'.cell? ⟨b, o, none⟩ = w.cell? ⟨b, o, none⟩) → (Builtin.firstCells z' new'.length (.slice (some ⟨b, o, none⟩) es.length cap)).run P w' = .ok xs.toArray w' := fun w' hw' =>
      run_firstCells_some (P := P) w' z' new'.length ⟨b, o, none⟩ es.length cap xs hl (fun j v hv => by
        rw [Addr.add_at, hw']
        exact h.F _ _ _ (x2 j v hv).1)
    exact ⟨xs, ⟨by simp [Builtin.lenOf, k3], hfirst w fun _ _ => rfl, hfirst w.drew fun _ _ => rfl, hl⟩, k1, k2, fun v hv => by
      obtain ⟨j, hj⟩ := List.getElem?_of_mem hv
      exact (x2 j v hj).2, k3⟩

theorem append_sound {C : Caller} {t xt ty e : TypeId} {i : TI} (he : Elem P T t xt e i) {s x r : AV} {sv xv : Value} {new : List AV} {p : Plan} {fx : Fx} (hev : elemsV x = some new)
    (hp : appendP i e s new = .ok p) (hrun : runPlan C st p = .ok (r, fx)) (hs : R g s sv) (hx : R g x xv) (h : Inv T A g st w) :
    Gives P T A g w r (fx.did.app st) (Builtin.append_ #[t, xt] ty #[sv, xv]) := by
  obtain ⟨f, z, f1, f2, f3, f4, f5⟩ := he.info
  obtain ⟨d, d1, d2⟩ := he.xt
  unfold appendP at hp
  split at hp
  · -- nothing is appended
    have hsrc : (Builtin.lenOf xv).run P w = .ok 0 w ∧ (Builtin.firstCells f.size 0 xv).run P w = .ok #[] w := by
      cases x <;> simp only [elemsV, Option.some.injEq] at hev <;> (try (cases hev; done)) <;> simp only [R] at hx
      · rename_i s
        have : s = [] := by simpa [ofBytes] using hev
        subst this
        subst hx
        have h0 : (⟨[].toArray⟩ : ByteArray) = ByteArray.empty := rfl
        rw [h0]
        exact ⟨by simp [Builtin.lenOf], by simp [Builtin.firstCells]⟩
      · subst hx
        exact ⟨by simp [Builtin.lenOf], by simp [Builtin.firstCells]⟩
      · subst hev
        obtain ⟨_, b, o, cap, rfl, _⟩ := hx
        exact ⟨by simp [Builtin.lenOf], by simp [Builtin.firstCells, loadCells, loadCellsFrom]⟩
    split at hp
    · simp only [pure_ok] at hp
      subst hp
      simp only [runPlan, Except.ok.injEq, Prod.mk.injEq] at hrun
      obtain ⟨rfl, rfl⟩ := hrun
      simp only [R] at hs
      subst hs
      refine Gives.of h (x := .slice none 0 0) ?_ (by simp only [R])
      simp [Builtin.append_, und_run he.t, und_run d1, sizeOf, typeInfo, f1, hsrc.1, hsrc.2]
    · simp only [pure_ok] at hp
      subst hp
      simp only [runPlan, Except.ok.injEq, Prod.mk.injEq] at hrun
      obtain ⟨rfl, rfl⟩ := hrun
      have hs' := hs
      simp only [R] at hs'
      obtain ⟨_, b, o, cap, rfl, hcap, _⟩ := hs'
      refine Gives.of h ?_ hs
      simp [Builtin.append_, und_run he.t, und_run d1, sizeOf, typeInfo, f1, hsrc.1, hsrc.2, hcap, storeCells]
    · cases hp
  · rename_i v l
    simp only [bind_ok] at hp
    obtain ⟨new', hf, hp⟩ := hp
    split at hp
    · cases hp
    · rename_i hall
      have hc := all_len hall
      obtain ⟨news, s1, s2, s3, s4, s5⟩ := src_sound (P := P) hx hev hf hc (by simp) h
      have hpos : 0 < new'.length := by rw [s5]; simp
      split at hp
      · -- to nil
        split at hp
        · rename_i hroom
          simp only [pure_ok] at hp
          subst hp
          simp only [runPlan, Except.ok.injEq, Prod.mk.injEq] at hrun
          obtain ⟨rfl, rfl⟩ := hrun
          simp only [R] at hs
          subst hs
          have hnil : Src P i.size (.slice none 0 0) 0 [] w := ⟨by simp [Builtin.lenOf], by simp [Builtin.firstCells], by simp [Builtin.firstCells], by simp⟩
          have := append_new (ty := ty) he hnil s1 (by omega) (by rw [Nat.zero_add]; exact hroom) h (els := new') (by omega) hc s3 (by simpa using s2) (by simpa using s4)
          rw [Nat.zero_add] at this
          exact this
        · cases hp
      · rename_i z' es p'
        split at hp
        · cases hp
        · rename_i hroom
          simp only [Bool.and_eq_true] at hroom
          obtain ⟨hroom, hzz⟩ := hroom
          have hzz := Nat.eq_of_beq_eq_true hzz
          subst hzz
          have hs' := hs
          simp only [R] at hs'
          obtain ⟨hb0, b, o, cap, rfl, hcap, hz1, hes, hperm⟩ := hs'
          split at hp
          · simp only [pure_ok] at hp
            subst hp
            simp only [runPlan, Except.ok.injEq, Prod.mk.injEq] at hrun
            obtain ⟨rfl, rfl⟩ := hrun
            have hcap' : cap = es.length := hperm
            subst hcap'
            have hes' := hes
            rw [RAtE_iff] at hes'
            obtain ⟨xs, x1, x2⟩ := RAt_vals hes'.2
            have hl : xs.length = es.length * i.size := by rw [RL_len x1, flat_length hes'.1]
            have hfirst : ∀ w' : World, (∀ b o, w'.cell? ⟨b, o, none⟩ = w.cell? ⟨b, o, none⟩) → (Builtin.firstCells i.size es.length (.slice (some ⟨b, o, none⟩) es.length es.length)).run P w' = .ok xs.toArray w' := fun w' hw' =>
              run_firstCells_some (P := P) w' i.size es.length ⟨b, o, none⟩ es.length es.length xs hl (fun j v hv => by
                rw [Addr.add_at, hw']
                exact h.F _ _ _ (x2 j v hv).1)
            have hsrc : Src P i.size (.slice (some ⟨b, o, none⟩) es.length es.length) es.length xs w := ⟨by simp [Builtin.lenOf], hfirst w fun _ _ => rfl, hfirst w.drew fun _ _ => rfl, hl⟩
            exact append_new (ty := ty) he hsrc s1 (by omega) hroom h (els := es ++ new') (by simp) (fun v hv => by
              rcases List.mem_append.1 hv with hv | hv
              · exact hes'.1 v hv
              · exact hc v hv) (by rw [bares_append, hb0, s3]; rfl) (by rw [flat_append]; exact RL_append x1 s2) (fun v hv => by
              rcases List.mem_append.1 hv with hv | hv
              · obtain ⟨j, hj⟩ := List.getElem?_of_mem hv
                exact (x2 j v hj).2
              · exact s4 v hv)
          · rename_i k
            simp only [pure_ok] at hp
            subst hp
            simp only [runPlan, bind_ok, pure_ok] at hrun
            obtain ⟨ob, h1, ⟨v', o'⟩, h2, dd, h5, h6⟩ := hrun
            split at h2
            · rename_i n e'
              split at h2
              · rename_i hcond
                simp only [Bool.and_eq_true] at hcond
                have hn := Nat.eq_of_beq_eq_true hcond.1
                have he' := Nat.eq_of_beq_eq_true hcond.2
                subst hn he'
                simp only [pure_ok, Prod.mk.injEq] at h2
                obtain ⟨rfl, rfl⟩ := h2
                simp only [didOf] at h5
                split at h5
                · cases h5
                · rename_i hro
                  rw [blt_false] at hro
                  simp only [Except.ok.injEq] at h5
                  subst h5
                  simp only [Prod.mk.injEq] at h6
                  obtain ⟨rfl, rfl⟩ := h6
                  exact append_own he h1 hro hb0 hes hcap hperm s1 rfl hpos hc s3 s2 s4 hroom h
              · cases h2
            · cases h2
          · cases hp
      · cases hp

end
end Go.VM
