/- Calls. -/
import Derived.Test.YtjagieigmleneajGreatDoorVmBody
namespace Go.VM

open Classical in
/-- All that a call has made, from a name on, never changes any more. -/
noncomputable def Gh.frz (g : Gh) (s : St) (w : World) (base : Nat) (E0 : Nat → Option Ent) : Gh where
  F b o := if ∃ id ty cs, base ≤ id ∧ s.get id = .ok (.cells ty cs) ∧ g.E id = some (.blk b) then w.cell? ⟨b, o, none⟩ else g.F b o
  M b := if ∃ id es, base ≤ id ∧ s.get id = .ok (.map es) ∧ g.E id = some (.blk b) then (match w.heap[b]? with | some (.map ents clk) => some (ents.toList, clk) | _ => none) else g.M b
  E := E0

section
variable {P : Program} {T : TT} {A : Nat → Prop} {g : Gh} {s : St} {w : World} {base : Nat}

theorem frz_F (h : Inv T A g s w) (E0 : Nat → Option Ent) : LeF g (g.frz s w base E0) := by
  refine ⟨fun b o v hv => ?_, fun b e he => ?_⟩
  · simp only [Gh.frz]
    split
    · exact h.F b o v hv
    · exact hv
  · simp only [Gh.frz]
    split
    · rename_i hc
      obtain ⟨id, es, _, h2, h3⟩ := hc
      obtain ⟨b', ents, clk, q1, q2, q3, q4⟩ := h.H id _ h2
      have : b' = b := by have := q1.symm.trans h3; simpa using this
      subst this
      rw [q4] at he; cases he
    · exact he
theorem frz_le (h : Inv T A g s w) : Le g (g.frz s w base g.E) := ⟨(frz_F h g.E).F, (frz_F h g.E).M, fun _ _ x => x, fun _ loc x => ⟨loc, x, fun _ _ y => y⟩⟩
theorem frz_cells (_h : Inv T A g s w) {id b : Nat} {ty : TypeId} {cs : List AV} (E0 : Nat → Option Ent) (hb : base ≤ id) (hg : s.get id = .ok (.cells ty cs)) (hE : g.E id = some (.blk b)) (o : Nat) : (g.frz s w base E0).F b o = w.cell? ⟨b, o, none⟩ := by
  simp only [Gh.frz]
  rw [if_pos ⟨id, ty, cs, hb, hg, hE⟩]

theorem freeze_sound (h : Inv T A g s w) : ∀ (f : Nat) (v v' : AV) (x : Value), freeze s base f v = .ok v' → R g v x → R (g.frz s w base g.E) v' x
  | 0, v, v', x, hf, _ => by simp [freeze] at hf
  | f + 1, v, v', x, hf, hr => by
    have all : ∀ (l l' : List AV) (xs : List Value), allE (freeze s base f) l = .ok l' → RL g l xs → RL (g.frz s w base g.E) l' xs := by
      intro l
      induction l with
      | nil =>
        intro l' xs h1 h2
        simp only [allE, Except.ok.injEq] at h1
        subst h1
        simp only [RL] at h2 ⊢; exact h2
      | cons v l ih =>
        intro l' xs h1 h2
        simp only [allE, bind_ok, pure_ok] at h1
        obtain ⟨u, e1, l1, e2, rfl⟩ := h1
        simp only [RL] at h2
        obtain ⟨y, ys, rfl, r1, r2⟩ := h2
        exact RL_cons (freeze_sound h f v u y e1 r1) (ih l1 ys e2 r2)
    have same : v' = v → R (g.frz s w base g.E) v' x := fun e => by subst e; exact R_mono (frz_le h) _ _ hr
    unfold freeze at hf
    split at hf
    · -- a pointer
      rename_i id off
      split at hf
      · simp only [Except.ok.injEq] at hf
        exact same hf.symm
      · rename_i hid
        rw [blt_false] at hid
        simp only [bind_ok] at hf
        obtain ⟨o, e1, e2⟩ := hf
        split at e2
        · rename_i ty cs
          simp only [bind_ok, pure_ok] at e2
          obtain ⟨c1, e3, c2, e4, rfl⟩ := e2
          simp only [R] at hr
          obtain ⟨b, hE, rfl⟩ := hr
          obtain ⟨b', vs, k1, k2, k3, k4, k5⟩ := h.cells e1
          have hb : b' = b := by have := k1.symm.trans hE; simpa using this
          subst hb
          have r1 := all _ _ _ e3 (RL_drop off k3)
          obtain ⟨r2, r3⟩ := RL_fits r1 e4
          simp only [R]
          refine ⟨r3, b', off, rfl, RAt_of_vals r2 fun i y hy => ⟨?_, k4 y (List.mem_of_mem_drop (List.mem_of_getElem? hy))⟩⟩
          rw [frz_cells h g.E hid e1 k1, cell_of k2]
          simpa using hy
        · cases e2
    · rename_i id
      split at hf
      · simp only [Except.ok.injEq] at hf
        exact same hf.symm
      · rename_i hid
        rw [blt_false] at hid
        simp only [bind_ok] at hf
        obtain ⟨o, e1, e2⟩ := hf
        split at e2
        · rename_i es
          simp only [bind_ok] at e2
          obtain ⟨es1, e3, e4⟩ := e2
          split at e4
          · simp only [pure_ok] at e4
            subst e4
            simp only [R] at hr
            obtain ⟨b, hE, rfl⟩ := hr
            obtain ⟨b', ents, clk, q1, q2, q3, q4⟩ := h.H id _ e1
            have hb : b' = b := by have := q1.symm.trans hE; simpa using this
            subst hb
            have ents_all : ∀ (l l' : List (AV × AV)) (m : List MapEntry), entriesE (freeze s base f) l = .ok l' → REs g l m → REs (g.frz s w base g.E) l' m := by
              intro l
              induction l with
              | nil =>
                intro l' xs h1 h2
                simp only [entriesE, Except.ok.injEq] at h1
                subst h1
                simp only [REs] at h2 ⊢; exact h2
              | cons p l ih =>
                intro l' xs h1 h2
                obtain ⟨k, v⟩ := p
                simp only [entriesE, bind_ok, pure_ok] at h1
                obtain ⟨u, e1, l1, e2, rfl⟩ := h1
                simp only [REs] at h2 ⊢
                obtain ⟨e, ys, rfl, r1, r2, r3⟩ := h2
                exact ⟨e, ys, rfl, R_mono (frz_le h) _ _ r1, R_strip (freeze_sound h f v u _ e1 r2), ih l1 ys e2 r3⟩
            simp only [R]
            refine ⟨b', ents.toList, clk, ?_, rfl, ents_all _ _ _ e3 q3⟩
            simp only [Gh.frz]
            rw [if_pos ⟨id, es, hid, e1, q1⟩, q2]
          · cases e4
        · cases e2
    · rename_i z e k
      split at hf
      · simp only [Except.ok.injEq] at hf
        exact same hf.symm
      · simp only [Except.ok.injEq] at hf
        subst hf
        exact R_strip (v := .sl z e (.own k)) (R_mono (frz_le h) _ _ hr)
    · simp only [bind_ok, pure_ok] at hf
      obtain ⟨c1, e3, rfl⟩ := hf
      simp only [R] at hr ⊢
      obtain ⟨ys, rfl, r⟩ := hr
      exact ⟨ys, rfl, all _ _ _ e3 r⟩
    · simp only [bind_ok, pure_ok] at hf
      obtain ⟨c1, e3, rfl⟩ := hf
      simp only [R] at hr ⊢
      obtain ⟨ys, rfl, r⟩ := hr
      exact ⟨ys, rfl, all _ _ _ e3 r⟩
    · simp only [bind_ok, pure_ok] at hf
      obtain ⟨c1, e3, rfl⟩ := hf
      simp only [R] at hr ⊢
      obtain ⟨y, rfl, r⟩ := hr
      exact ⟨y, rfl, freeze_sound h f _ c1 y e3 r⟩
    · simp only [bind_ok, pure_ok] at hf
      obtain ⟨c1, e3, c2, e4, rfl⟩ := hf
      simp only [R] at hr ⊢
      obtain ⟨y, y', rfl, r, r'⟩ := hr
      exact ⟨y, y', rfl, all _ _ _ e3 r, all _ _ _ e4 r'⟩
    · -- an array
      rename_i id off z len cap
      split at hf
      · simp only [Except.ok.injEq] at hf
        exact same hf.symm
      · rename_i hid
        rw [blt_false] at hid
        simp only [bind_ok] at hf
        obtain ⟨o, e1, e2⟩ := hf
        split at e2
        · rename_i ty cs
          simp only [bind_ok] at e2
          obtain ⟨c1, e3, e4⟩ := e2
          split at e4
          · rename_i hones
            simp only [bind_ok] at e4
            obtain ⟨els, e5, els', e6, e7⟩ := e4
            split at e7
            · cases e7
            · rename_i hcap
              simp only [pure_ok] at e7
              subst e7
              simp only [R] at hr
              obtain ⟨b, o', hE, rfl, hc, hz1, ho⟩ := hr
              have ho' : o' = off := ho (fun e => by subst e; simp at hcap)
              subst ho'
              obtain ⟨b', vs, k1, k2, k3, k4, k5⟩ := h.cells e1
              have hb : b' = b := by have := k1.symm.trans hE; simpa using this
              subst hb
              have r1 := all _ _ _ e3 (RL_take (len * z) (RL_drop o' k3))
              obtain ⟨f1, f2, f3⟩ := group_flat (fun e => by
                have : ¬ 2 ≤ z := fun k => by rw [Nat.ble_eq_true_of_le k] at e; cases e
                omega) hones e5
              have r2 : RL (g.frz s w base g.E) (flat els) (((vs.toList.drop o').take (len * z)).take (len * z)) := by rw [f1]; exact RL_take _ r1
              obtain ⟨q1, q2, q3, q4⟩ := fits_flat e6 r2
              simp only [R]
              have hl : els'.length = len := by rw [q3, f3]
              refine ⟨q2, b', o', cap, by rw [hl], by rw [hl]; exact hc, hz1, ?_, ?_⟩
              · rw [RAtE_iff]
                refine ⟨fun u hu => by
                  have : u.cells.length ∈ els'.map (·.cells.length) := List.mem_map.2 ⟨u, hu, rfl⟩
                  rw [q4] at this
                  obtain ⟨u', hu', e⟩ := List.mem_map.1 this
                  rw [← e]; exact f2 u' hu', RAt_of_vals q1 fun i y hy => ?_⟩
                have hy' : vs[o' + i]? = some y ∧ y ∈ vs.toList := by
                  have h1 : y ∈ vs.toList := List.mem_of_mem_drop (List.mem_of_mem_take (List.mem_of_mem_take (List.mem_of_getElem? hy)))
                  refine ⟨?_, h1⟩
                  rw [List.take_take, Nat.min_self, List.getElem?_take] at hy
                  by_cases hi : i < len * z
                  · rw [if_pos hi] at hy
                    simpa using hy
                  · rw [if_neg hi] at hy; cases hy
                refine ⟨?_, k4 y hy'.2⟩
                rw [frz_cells h g.E hid e1 k1, cell_of k2]
                exact hy'.1
              · split
                · rename_i hcl
                  simp only [permR]
                  rw [hl]; exact Nat.eq_of_beq_eq_true hcl
                · simp only [permR]
          · cases e4
        · cases e2
    · -- a slice that an object holds
      rename_i k z n
      split at hf
      · simp only [Except.ok.injEq] at hf
        exact same hf.symm
      · simp only [bind_ok] at hf
        obtain ⟨o, e1, e2⟩ := hf
        split at e2
        · rename_i m e z' es
          split at e2
          · rename_i hcond
            simp only [Bool.and_eq_true] at hcond
            have c1 := Nat.eq_of_beq_eq_true hcond.1.1
            have c2 := Nat.eq_of_beq_eq_true hcond.1.2
            have c3 := Nat.eq_of_beq_eq_true hcond.2
            subst c1 c2 c3
            cases e2
            simp only [R] at hr
            obtain ⟨loc, b, cap, hE, hl, rfl, hcap, hz1⟩ := hr
            obtain ⟨loc2, b2, cap2, i2, vs, fz, q1, q2, q3, q4, q5, q6, q7, q8, q9, q10, q11, q12, q13, q14⟩ := h.H k _ e1
            have e1 := q1.symm.trans hE
            simp only [Option.some.injEq, Ent.tok.injEq] at e1
            subst e1
            have e2 := q2.symm.trans hl
            simp only [Option.some.injEq, Prod.mk.injEq] at e2
            obtain ⟨rfl, rfl⟩ := e2
            simp only [R]
            exact ⟨q13, b2, 0, cap2, rfl, hcap, hz1, RAtE_mono (frz_le h) _ _ _ _ q14, trivial⟩
          · cases e2
        · cases e2
    · simp only [Except.ok.injEq] at hf
      exact same hf.symm

/-- What a call that works for itself leaves to its caller. -/
theorem quiet_post {A' : Nat → Prop} {gb g' : Gh} {st : St} {w' : World} {v v' : AV} {x : Value} (hc : Inv T A g st w) (hF : gb.F = g.F) (hM : gb.M = g.M) (hA : ∀ b, A' b ↔ w.heap.size ≤ b)
    (hi : Inv T A' g' s w') (hk : Kp A' gb w g' w') (hro : s.ro ≤ base) (hr : R g' v x) (hf : freeze s base 100 v = .ok v') (hb : bare v' = true) : Post T A g st w v' x w' := by
  have hold : ∀ b, b < w.heap.size → ¬ A' b := fun b hb ha => by have := (hA b).1 ha; omega
  have hF' : ∀ b, b < w.heap.size → ∀ o, (g'.frz s w' base g.E).F b o = g.F b o := fun b hb o => by
    simp only [Gh.frz]
    rw [if_neg ?_]
    · rw [hk.F b (hold b hb) o, hF]
    · rintro ⟨id, ty, cs, h1, h2, h3⟩
      exact hold b hb (hi.own id _ b h2 h3 (by omega))
  have hM' : ∀ b, b < w.heap.size → (g'.frz s w' base g.E).M b = g.M b := fun b hb => by
    simp only [Gh.frz]
    rw [if_neg ?_]
    · rw [hk.M b (hold b hb), hM]
    · rintro ⟨id, es, h1, h2, h3⟩
      exact hold b hb (hi.own id _ b h2 h3 (by omega))
  have hheap : ∀ b, b < w.heap.size → w'.heap[b]? = w.heap[b]? := fun b hb => hk.heap b (hold b hb)
  have hle : Le g (g'.frz s w' base g.E) := by
    refine ⟨fun b o u hu => ?_, fun b e he => ?_, fun _ _ x => x, fun _ loc x => ⟨loc, x, fun _ _ y => y⟩⟩
    · obtain ⟨vs, ty, fz, q, _⟩ := cells_of (hc.F b o u hu)
      rw [hF' b (lt_of_heap q) o]; exact hu
    · have := hc.M b e.1 e.2 he
      rw [hM' b (lt_of_heap this)]; exact he
  refine ⟨g'.frz s w' base g.E, R_bare (g := g'.frz s w' base g'.E) (g' := g'.frz s w' base g.E) ⟨fun _ _ _ x => x, fun _ _ x => x⟩ v' x hb (freeze_sound hi 100 v v' x hf hr), ⟨?_, ?_, hc.E, ?_, hc.D, hc.own, fun b hb => hc.up b (Nat.le_trans hk.size hb)⟩, ⟨hk.size, ?_, ?_, ?_, hle, hk.rest⟩⟩
  · intro b o u hu
    simp only [Gh.frz] at hu
    split at hu
    · exact hu
    · exact hi.F b o u hu
  · intro b ents clk hm
    simp only [Gh.frz] at hm
    split at hm
    · split at hm
      · rename_i e c hh
        simp only [Option.some.injEq, Prod.mk.injEq] at hm
        obtain ⟨rfl, rfl⟩ := hm
        simpa using hh
      · cases hm
    · exact hi.M b ents clk hm
  · intro id o ho
    have := hc.H id o ho
    refine Holds_mono (Holds_congr this fun b hb => hheap b (At_lt this hb)) hle rfl fun b hb => ?_
    have hlt := At_lt this hb
    exact ⟨fun o => hF' b hlt o, hM' b hlt⟩
  · intro b hb
    exact hheap b (Nat.lt_of_not_le fun k => hb (hc.up b k))
  · intro b hb o
    exact hF' b (Nat.lt_of_not_le fun k => hb (hc.up b k)) o
  · intro b hb
    exact hM' b (Nat.lt_of_not_le fun k => hb (hc.up b k))

end
end Go.VM
