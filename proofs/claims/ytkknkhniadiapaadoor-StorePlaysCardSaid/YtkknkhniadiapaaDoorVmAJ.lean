/-
  A part of the proof.
-/
import Derived.Test.YtkknkhniadiapaaDoorVmAI
import Derived.LoopN
import Derived.Scope
import Derived.RangeFuncLeaves
import Derived.RangeFuncRecord
namespace Go.VM
def Ex.to : Ex → Exit
  | .normal => .normal
  | .exit id => .exit id
  | .ret => .ret
section
variable {P : Program}
theorem Kp.sub {A A' : Nat → Prop} {g g' : Gh} {w w' : World} (h : Kp A' g w g' w') (hs : ∀ b, A' b → A b) : Kp A g w g' w' :=
  ⟨h.size, fun b hb => h.heap b fun k => hb (hs b k), fun b hb => h.F b fun k => hb (hs b k), fun b hb => h.M b fun k => hb (hs b k), h.le, h.rest⟩
structure Nx (A : Nat → Prop) (g : Gh) (a : Act) (w : World) (A' : Nat → Prop) (g' : Gh) (a' : Act) (w' : World) : Prop where
  sub : ∀ b, A' b → A b
  kp : Kp A g w g' w'
  defs : ∀ d ∈ a'.defers, d ∈ a.defers ∨ ∃ D, d = mark D ∧ A D
  out : ∀ b, A b → ¬ A' b → ∀ o, g'.F b o = none
theorem Nx.refl (A : Nat → Prop) (g : Gh) (a : Act) (w : World) : Nx A g a w A g a w := ⟨fun _ h => h, Kp.refl _ _ _, fun _ h => .inl h, fun _ h k => absurd h k⟩
theorem Nx.trans {A A1 A2 : Nat → Prop} {g g1 g2 : Gh} {a a1 a2 : Act} {w w1 w2 : World} (h : Nx A g a w A1 g1 a1 w1) (k : Nx A1 g1 a1 w1 A2 g2 a2 w2) : Nx A g a w A2 g2 a2 w2 :=
  ⟨fun b hb => h.sub b (k.sub b hb), h.kp.trans (k.kp.sub h.sub), fun d hd => by
    rcases k.defs d hd with hd | ⟨D, rfl, hD⟩
    · exact h.defs d hd
    · exact .inr ⟨D, rfl, h.sub D hD⟩, fun b ha hn o => by
    by_cases h1 : A1 b
    · exact k.out b h1 hn o
    · rw [k.kp.F b h1 o]; exact h.out b ha h1 o⟩
theorem iter_sound {X : Cx} {ro : Option Nat} {sb : Bool} {c : Code} {body : Fr → St → Res (Ex × Fr × St)}
    (hb : ∀ A fr st ex fr' st' g a w (Q : Exit → Act → World → Prop), body fr st = .ok (ex, fr', st') → Rel X A sb g fr st a w → (∀ A' g' a' w', Rel X A' sb g' fr' st' a' w' → Nx A g a w A' g' a' w' → Q ex.to a' w') → c.wpIn (fe ro) 0 P Q a w) :
    ∀ (n : Nat) {A : Nat → Prop} {fr fr' : Fr} {st st' : St} {ex : Ex} {g : Gh} {a : Act} {w : World} {Q : Exit → Act → World → Prop}, iter body n fr st = .ok (ex, fr', st') → Rel X A sb g fr st a w → (∀ A' g' a' w', Rel X A' sb g' fr' st' a' w' → Nx A g a w A' g' a' w' → Q ex.to a' w') → Code.roundsIn (fe ro) 0 P c Q n a w
  | 0, _, _, _, _, _, _, _, _, _, _, h, _, _ => by simp [iter] at h
  | n + 1, A, fr, fr', st, st', ex, g, a, w, Q, h, hr, hQ => by
    simp only [iter, bind_ok] at h
    obtain ⟨⟨ex1, fr1, st1⟩, h1, h2⟩ := h
    rw [roundsIn_succ]
    refine hb A fr st ex1 fr1 st1 g a w _ h1 hr fun A' g' a' w' hr' hk => ?_
    cases ex1 with
    | normal => exact iter_sound hb n h2 hr' fun A'' g'' a'' w'' hr'' hk' => hQ A'' g'' a'' w'' hr'' (hk.trans hk')
    | exit id =>
      simp only [pure_ok, Prod.mk.injEq] at h2
      obtain ⟨rfl, rfl, rfl⟩ := h2
      exact hQ A' g' a' w' hr' hk
    | ret =>
      simp only [pure_ok, Prod.mk.injEq] at h2
      obtain ⟨rfl, rfl, rfl⟩ := h2
      exact hQ A' g' a' w' hr' hk
theorem loop_F {T : TT} {A : Nat → Prop} {g : Gh} {st : St} {w : World} (h : Inv T A g st w) {l : Nat} {o : Go.Obj} (hl : w.heap[l]? = some o) (ho : ∀ vs ty fz, o ≠ .cells vs ty fz) (k : Nat) : g.F l k = none := by
  cases hf : g.F l k with
  | none => rfl
  | some v =>
    obtain ⟨vs, ty, fz, h1, _⟩ := cells_of (h.F l k v hf)
    rw [hl] at h1
    exact absurd (Option.some.inj h1) (ho vs ty fz)
theorem loop_M {T : TT} {A : Nat → Prop} {g : Gh} {st : St} {w : World} (h : Inv T A g st w) {l : Nat} {o : Go.Obj} (hl : w.heap[l]? = some o) (ho : ∀ es clk, o ≠ .map es clk) : g.M l = none := by
  cases hm : g.M l with
  | none => rfl
  | some v =>
    have h1 := h.M l v.1 v.2 hm
    rw [hl] at h1
    exact absurd (Option.some.inj h1) (ho _ _)
theorem Inv.turn {T : TT} {A : Nat → Prop} {g : Gh} {st : St} {w : World} (h : Inv T A g st w) {k l : Nat} {imm : TypeId → Bool} {ps : List Tmp} {x c : Code} {fr : Fr} {s : Nat} {p : Ex} (hk : st.get k = .ok (.loop imm ps x c fr s p)) (hE : g.E k = some (.blk l)) {r : Loop} (hl : w.heap[l]? = some (.loop r)) (hA : A l)
    (r' : Loop) (o' : Obj) (hat : ∀ b', At g k o' b' → b' = l) (ho : Holds T g (w.putObj l (.loop r')) k o') : Inv T A g (st.put k o') (w.putObj l (.loop r')) ∧ Kp A g w g (w.putObj l (.loop r')) := by
  have hne : ∀ b', b' ≠ l → (w.putObj l (.loop r')).heap[b']? = w.heap[b']? := fun b' hb => World.putObj_heap_other hb
  exact ⟨h.write hk (show g.E k = some (.blk l) from hE) o' World.putObj_size hne (fun j v hv => by rw [loop_F h hl (fun _ _ _ e => by cases e) j] at hv; cases hv) (loop_M h hl fun _ _ e => by cases e) hat ho,
    Kp.write hA World.putObj_size hne⟩
theorem setLoop_ok {k s0 s1 : Nat} {p : Ex} {st st' : St} (h : setLoop k s0 s1 p st = .ok st') : ∃ imm ps x c fr p0, st.get k = .ok (.loop imm ps x c fr s0 p0) ∧ st' = st.put k (.loop imm ps x c fr s1 p) := by
  simp only [setLoop, bind_ok] at h
  obtain ⟨o, h1, h2⟩ := h
  split at h2
  · rename_i imm ps x c fr s p0
    split at h2
    · rename_i hs
      have hs := Nat.eq_of_beq_eq_true hs
      subst hs
      cases h2
      exact ⟨imm, ps, x, c, fr, p0, h1, rfl⟩
    · cases h2
  · cases h2
theorem putPairs_get (fr : Fr) : ∀ (us : List Nat) (t : Tr AV) (i : Nat), (putPairs us (getEach fr us) t).get i = t.get i ∨ (putPairs us (getEach fr us) t).get i = some (fr.get i)
  | [], t, i => .inl rfl
  | u :: us, t, i => by
    simp only [getEach, putPairs]
    rcases putPairs_get fr us (t.put u (fr.get u)) i with h | h
    · rw [h, Tr.get_put]
      by_cases hu : u = i
      · rw [if_pos hu, hu]; exact .inr rfl
      · rw [if_neg hu]; exact .inl rfl
    · exact .inr h
theorem frOf_sound {g : Gh} {fr : Fr} {tmps : Array Value} (h : FrR g fr tmps) (hs : fr.strict = false) (us : List Nat) : FrR g (frOf fr.n us (getEach fr us)) tmps := by
  refine ⟨h.size, fun t => ?_⟩
  simp only [frOf, Fr.get]
  rcases putPairs_get fr us .leaf t with h1 | h1
  · rw [h1, Tr.get_leaf]; exact .inl ⟨trivial, rfl⟩
  · rw [h1]; exact .inr (h.at hs t)
theorem rangeF_sound {X : Cx} (hX : Good P X) {n : Nat} {x : Operand} {ps : Array Tmp} {y c : Code} (hc : codeOk y = true ∧ codeOk c = true) {A : Nat → Prop} {ro : Option Nat} {sb : Bool} (hsb : ro.isSome = true → sb = true) {fr fr' : Fr} {st st' : St} {ex : Ex} {g : Gh} {a : Act} {w : World} {Q : Exit → Act → World → Prop}
    (h : exec X n (.rangeFunc x ps y c) fr st = .ok (ex, fr', st')) (hr : Rel X A sb g fr st a w) (hQ : ∀ A' g' a' w', Rel X A' sb g' fr' st' a' w' → Nx A g a w A' g' a' w' → Q ex.to a' w') : (Code.rangeFunc x ps y c).wpIn (fe ro) 0 P Q a w := by
  simp only [exec] at h
  split at h
  · cases h
  rename_i hs
  have hro : ro = none := by
    have := hr.mode
    rw [hs] at this
    cases ro with
    | none => rfl
    | some l => rw [hsb rfl] at this; cases this
  subst hro
  simp only [bind_ok] at h
  obtain ⟨fv, h1, h⟩ := h
  split at h
  · rename_i f cap
    simp only [bind_ok] at h
    obtain ⟨⟨v, st1⟩, h2, o, h3, h4⟩ := h
    dsimp only at h3 h4
    split at h4
    · rename_i imm1 ps1 x1 c1 fr1 s p
      split at h4
      · rename_i hsp
        simp only [pure_ok, Prod.mk.injEq] at h4
        obtain ⟨rfl, rfl, rfl⟩ := h4
        have hfv := evalO_sound hr.G hr.fr h1
        simp only [R, RL] at hfv
        obtain ⟨a', c', hfx, ha', hc'⟩ := hfv
        have ha' : a' = #[] := by simpa using ha'
        subst ha'
        refine wpIn_rangeFunc ?_
        intro fn hfn
        obtain ⟨rec, hrec⟩ : ∃ rec : Loop, rec = { state := .ready, pending := none, fn, tmps := a.tmps, params := ps, assign := y, body := c, defers := w.heap.size } := ⟨_, rfl⟩
        obtain ⟨W0, hW0⟩ : ∃ W0, w.alloc (.deferred (some [])) = W0 := ⟨_, rfl⟩
        obtain ⟨W1, hW1⟩ : ∃ W1, W0.alloc (.loop rec) = W1 := ⟨_, rfl⟩
        have hs0 : W0.heap.size = w.heap.size + 1 := by rw [← hW0]; simp
        have hs1 : W1.heap.size = w.heap.size + 1 + 1 := by rw [← hW1, ← hW0]; simp
        obtain ⟨A', hA'⟩ : ∃ A' : Nat → Prop, A' = fun b => A b ∧ b ≠ w.heap.size := ⟨_, rfl⟩
        have hsub : ∀ b, A' b → A b := fun b hb => by rw [hA'] at hb; exact hb.1
        have i0 : Inv X.T A g st W0 := by rw [← hW0]; exact hr.inv.alloc _
        have i0 : Inv X.T A' g st W0 := by
          refine ⟨i0.F, i0.M, i0.E, i0.H, i0.D, fun id o b q1 q2 q3 => ?_, fun b hb => ?_, fun c => ⟨fun b o v ha => (i0.C c).1 b o v (hsub b ha), (i0.C c).2⟩⟩
          · rw [hA']
            have := At_lt (hr.inv.H id o q1) q2
            exact ⟨i0.own id o b q1 q2 q3, by omega⟩
          · rw [hA']
            exact ⟨hr.inv.up b (by omega), by omega⟩
        have k0 : Kp A g w g W0 := by rw [← hW0]; exact Kp.alloc _ hr.inv
        have hl1 : W1.heap[w.heap.size + 1]? = some (.loop rec) := by
          have := World.heap_alloc_new (w := W0) (o := .loop rec)
          rw [hW1, hs0] at this
          exact this
        have hD1 : W1.heap[w.heap.size]? = some (.deferred (some [])) := by
          rw [← hW1, World.heap_alloc_lt (by omega), ← hW0]
          exact World.heap_alloc_new
        have hE0 : g.E st.h = none := hr.inv.E _ (Nat.le_refl _)
        have le1 : Le g (g.setE st.h (.blk (w.heap.size + 1))) := Le.setE hE0
        have hAl : A' (w.heap.size + 1) := by rw [hA']; exact ⟨hr.inv.up _ (by omega), by omega⟩
        have i1 : Inv X.T A' (g.setE st.h (.blk (w.heap.size + 1))) (st.new (.loop X.imm ps.toList y c (frOf fr.n (capsOf ps.toList y c) (getEach fr (capsOf ps.toList y c))) 0 .normal)).2 W1 := by
          have := i0.alloc (.loop rec)
          rw [hW1] at this
          refine this.name (hU := fun _ => Unf.other fun vs ty fz e => by rw [hl1] at e; cases e) _ (.blk (w.heap.size + 1)) (w.heap.size + 1) (fun id o' ho' => i0.not_new (by omega) id o' ho') hAl (fun b' hb' => ?_) ⟨w.heap.size + 1, rec, Gh.setE_same _ _ _, hl1, ?_, ?_, ?_, ?_, ⟨hc.1, hc.2, rfl⟩, ?_⟩
          · have hb' : (g.setE st.h (.blk (w.heap.size + 1))).E st.h = some (.blk b') := hb'
            rw [Gh.setE_same] at hb'
            simpa using hb'.symm
          · rw [hrec]; exact (frOf_sound hr.fr hs _).mono le1
          · rw [hrec]
          · rw [hrec]
          · rw [hrec]
          · rw [hrec]; exact .inl ⟨rfl, rfl, rfl, rfl⟩
        have k1 : Kp A' g W0 (g.setE st.h (.blk (w.heap.size + 1))) W1 := by
          rw [← hW1]; exact (Kp.alloc _ i0).trans (Kp.setE hE0)
        have hargs : RL (g.setE st.h (.blk (w.heap.size + 1))) (.yld st.h :: cap) (.func (.yield (w.heap.size + 1)) #[] #[] :: c'.toList) :=
          RL_cons (by simp only [R]; exact ⟨_, Gh.setE_same _ _ _, rfl⟩) (RL_mono le1 _ _ hc')
        obtain ⟨e1, hcall⟩ := hX.C.wide _ _ _ _ _ h2 A' _ W1 _ (hr.G.mono le1) hargs i1
        refine ⟨w.heap.size + 1, [mark w.heap.size], W1, { target := .fn (.func f) c', args := #[.func (.yield (w.heap.size + 1)) #[] #[]] }, W1, f, (.func (.yield (w.heap.size + 1)) #[] #[] :: c'.toList).toArray, W1, ?_, ?_, ?_, ?_, fun e => by simp [fe, Fence.wide] at e, ?_⟩
        · rw [← hW1, hrec, ← hW0]; exact run_enterLoop_outer _ _ _ _ _
        · simp only [resolve, hfx]
          simp [go_sem]
        · intro _ _; trivial
        · have : (#[.func (.yield (w.heap.size + 1)) #[] #[]] ++ c' : Array Value) = (.func (.yield (w.heap.size + 1)) #[] #[] :: c'.toList).toArray := by
            apply Array.ext'; simp
          rw [← this] at e1 ⊢
          simpa [invoke, go_sem] using e1
        · have hcall : CallsIn (fe none) 0 P f _ W1 _ := callsIn_wide.2 hcall
          refine CallsIn.mono hcall ?_
          rintro e W3 ⟨z, rfl, g', _, i3, k3⟩
          have hE3 : g'.E st.h = some (.blk (w.heap.size + 1)) := k3.le.blk _ _ (Gh.setE_same _ _ _)
          obtain ⟨b, r, q1, q2, q3, q4, q5, q6, q7, q8⟩ := i3.H _ _ h3
          have hb : b = w.heap.size + 1 := by have := q1.symm.trans hE3; simpa using this
          subst hb
          have hnb : r.state ≠ .busy := by
            rcases q8 with ⟨_, e, _⟩ | ⟨e, _⟩ | ⟨_, e, _⟩
            · rw [e]; simp
            · subst e; cases hsp
            · rw [e]; simp
          obtain ⟨i4, k4⟩ := i3.turn h3 hE3 q2 hAl { r with state := .exhausted } .dead (fun _ hb' => hb'.elim) trivial
          have rel : Rel X A' sb g' fr (st1.put st.h .dead) { a with defers := [mark w.heap.size] ++ a.defers } (W3.putObj (w.heap.size + 1) (.loop { r with state := .exhausted })) := by
            refine ⟨hr.mode, hr.fr.mono (le1.trans k3.le), i4, hr.G.mono (le1.trans k3.le), ?_⟩
            have m1 : Marks A' ([mark w.heap.size] ++ a.defers) W1 := by
              obtain ⟨Ds, m1, m2, m3⟩ := hr.marks
              refine ⟨w.heap.size :: Ds, by rw [m1]; rfl, List.nodup_cons.2 ⟨fun hm => ?_, m2⟩, fun D hD => ?_⟩
              · have := lt_of_heap (m3 _ hm).2
                omega
              · rcases List.mem_cons.1 hD with rfl | hD
                · exact ⟨fun hh => by rw [hA'] at hh; exact hh.2 rfl, hD1⟩
                · have hlt := lt_of_heap (m3 D hD).2
                  refine ⟨fun hh => (m3 D hD).1 (hsub D hh), ?_⟩
                  rw [← hW1, World.heap_alloc_lt (by omega), ← hW0, World.heap_alloc_lt hlt]
                  exact (m3 D hD).2
            exact (m1.keep k3).keep k4
          have nx : Nx A g a w A' g' { a with defers := [mark w.heap.size] ++ a.defers } (W3.putObj (w.heap.size + 1) (.loop { r with state := .exhausted })) := by
            refine ⟨hsub, k0.trans (((k1.trans k3).trans k4).sub hsub), fun d hd => ?_, fun b ha hn o => ?_⟩
            rotate_left
            · have hb : b = w.heap.size := Classical.byContradiction fun e => hn (by rw [hA']; exact ⟨ha, e⟩)
              rw [((k1.trans k3).trans k4).F b hn o, hb]
              exact hr.inv.F_new (Nat.le_refl _) o
            rcases List.mem_append.1 hd with hd | hd
            · exact .inr ⟨w.heap.size, by simpa using hd, hr.inv.up _ (Nat.le_refl _)⟩
            · exact .inl hd
          have hq := hQ _ _ _ _ rel nx
          have hend := run_endLoop (P := P) q2 hnb
          obtain ⟨W4, hW4⟩ : ∃ W4, W3.putObj (w.heap.size + 1) (.loop { r with state := .exhausted }) = W4 := ⟨_, rfl⟩
          rw [hW4] at hq hend
          refine ⟨r.pending, W4, hend, ?_⟩
          rcases q8 with ⟨_, _, e, rfl⟩ | ⟨e, _⟩ | ⟨_, _, ⟨rfl, e⟩ | ⟨i, rfl, e⟩⟩
          · rw [e]; exact hq
          · subst e; cases hsp
          · rw [e]; exact wpIn_ret hq
          · rw [e]; exact wpIn_exit hq
      · cases h4
    · cases h4
  · cases h
theorem exec_sound {X : Cx} {ro : Option Nat} {sb : Bool} (hX : Good P X) (hm : P.follows .mixedOrders = true) (hsb : ro.isSome = true → sb = true) (n : Nat) : ∀ (c : Code), codeOk c = true → (sb = true → straight c = true) → ∀ (A : Nat → Prop) (fr : Fr) (st : St) (ex : Ex) (fr' : Fr) (st' : St) (g : Gh) (a : Act) (w : World) (Q : Exit → Act → World → Prop),
    exec X n c fr st = .ok (ex, fr', st') → Rel X A sb g fr st a w → (∀ A' g' a' w', Rel X A' sb g' fr' st' a' w' → Nx A g a w A' g' a' w' → Q ex.to a' w') → c.wpIn (fe ro) 0 P Q a w
  | .skip, _, _, A, fr, st, ex, fr', st', g, a, w, Q, h, hr, hQ => by
    simp only [exec, Except.ok.injEq, Prod.mk.injEq] at h
    obtain ⟨rfl, rfl, rfl⟩ := h
    exact wpIn_skip (hQ A g a w hr (Nx.refl _ _ _ _))
  | .label _, _, _, A, fr, st, ex, fr', st', g, a, w, Q, h, hr, hQ => by
    simp only [exec, Except.ok.injEq, Prod.mk.injEq] at h
    obtain ⟨rfl, rfl, rfl⟩ := h
    exact wpIn_label (hQ A g a w hr (Nx.refl _ _ _ _))
  | .exit id, _, _, A, fr, st, ex, fr', st', g, a, w, Q, h, hr, hQ => by
    simp only [exec, Except.ok.injEq, Prod.mk.injEq] at h
    obtain ⟨rfl, rfl, rfl⟩ := h
    exact wpIn_exit (hQ A g a w hr (Nx.refl _ _ _ _))
  | .ret, _, _, A, fr, st, ex, fr', st', g, a, w, Q, h, hr, hQ => by
    simp only [exec, Except.ok.injEq, Prod.mk.injEq] at h
    obtain ⟨rfl, rfl, rfl⟩ := h
    exact wpIn_ret (hQ A g a w hr (Nx.refl _ _ _ _))
  | .region id ops draw, hc, hst, A, fr, st, ex, fr', st', g, a, w, Q, h, hr, hQ => by
    have hpl : sb = true → plainOps ops.toList = true := hst
    have nx : ∀ {g' : Gh} {a' : Act} {w' : World}, a'.defers = a.defers → Kp A g w g' w' → Nx A g a w A g' a' w' := fun hd hk => ⟨fun _ hb => hb, hk, fun d h => .inl (hd ▸ h), fun _ h k => absurd h k⟩
    simp only [exec] at h
    split at h
    · simp only [bind_ok, pure_ok, Prod.mk.injEq] at h
      obtain ⟨⟨fr1, st1⟩, h1, rfl, rfl, rfl⟩ := h
      refine region_sound hX hm hpl (fun hd => ?_) h1 hr fun a' g' w' hr' hd hk => hQ A g' a' w' hr' (nx hd hk)
      simp only [codeOk, hd, Bool.not_true, Bool.false_or] at hc
      exact hc
    · rename_i hd
      simp only [Bool.and_eq_true] at hd
      obtain ⟨rfl, _⟩ := hd
      simp only [bind_ok, pure_ok, Prod.mk.injEq] at h
      obtain ⟨⟨fr1, st1⟩, h1, rfl, rfl, rfl⟩ := h
      exact region_soundE hX hm hpl (by simpa [codeOk] using hc) h1 ⟨hr.mode, hr.fr, hr.inv.lay, hr.G, hr.marks⟩ fun a' g' w' hr' hd hk => hQ A g' a' w' hr' (nx hd hk)
  | .seq x y, hc, hst, A, fr, st, ex, fr', st', g, a, w, Q, h, hr, hQ => by
    simp only [codeOk, Bool.and_eq_true] at hc
    have hs1 : sb = true → straight x = true ∧ straight y = true := fun e => by have := hst e; simpa [straight] using this
    simp only [exec, bind_ok] at h
    obtain ⟨⟨ex1, fr1, st1⟩, h1, h2⟩ := h
    refine wpIn_seq (exec_sound hX hm hsb n x hc.1 (fun e => (hs1 e).1) A fr st ex1 fr1 st1 g a w _ h1 hr fun A' g' a' w' hr' hk => ?_)
    cases ex1 with
    | normal => exact exec_sound hX hm hsb n y hc.2 (fun e => (hs1 e).2) A' fr1 st1 ex fr' st' g' a' w' Q h2 hr' fun A'' g'' a'' w'' hr'' hk' => hQ A'' g'' a'' w'' hr'' (hk.trans hk')
    | exit id =>
      simp only [pure_ok, Prod.mk.injEq] at h2
      obtain ⟨rfl, rfl, rfl⟩ := h2
      exact hQ A' g' a' w' hr' hk
    | ret =>
      simp only [pure_ok, Prod.mk.injEq] at h2
      obtain ⟨rfl, rfl, rfl⟩ := h2
      exact hQ A' g' a' w' hr' hk
  | .cond c x y, hc, hst, A, fr, st, ex, fr', st', g, a, w, Q, h, hr, hQ => by
    simp only [codeOk, Bool.and_eq_true] at hc
    have hs1 : sb = true → straight x = true ∧ straight y = true := fun e => by have := hst e; simpa [straight] using this
    simp only [exec, bind_ok] at h
    obtain ⟨cv, h1, b, h2, h3⟩ := h
    have hcv := evalO_sound hr.G hr.fr h1
    cases cv <;> simp only [VM.asBool, Except.ok.injEq] at h2 <;> (try (cases h2; done))
    subst h2
    simp only [R] at hcv
    rename_i b
    refine wpIn_cond hcv ?_
    cases b with
    | true => exact exec_sound hX hm hsb n x hc.1 (fun e => (hs1 e).1) A fr st ex fr' st' g a w Q h3 hr hQ
    | false => exact exec_sound hX hm hsb n y hc.2 (fun e => (hs1 e).2) A fr st ex fr' st' g a w Q h3 hr hQ
  | .block id c, hc, hst, A, fr, st, ex, fr', st', g, a, w, Q, h, hr, hQ => by
    simp only [codeOk] at hc
    simp only [exec, bind_ok] at h
    obtain ⟨⟨ex1, fr1, st1⟩, h1, h2⟩ := h
    refine wpIn_block (exec_sound hX hm hsb n c hc hst A fr st ex1 fr1 st1 g a w _ h1 hr fun A' g' a' w' hr' hk => ?_)
    cases ex1 with
    | normal =>
      simp only [pure_ok, Prod.mk.injEq] at h2
      obtain ⟨rfl, rfl, rfl⟩ := h2
      exact hQ A' g' a' w' hr' hk
    | exit i =>
      simp only at h2
      simp only [Ex.to, Exit.inBlock]
      split at h2
      · rename_i hi
        have hi := Nat.eq_of_beq_eq_true hi
        simp only [pure_ok, Prod.mk.injEq] at h2
        obtain ⟨rfl, rfl, rfl⟩ := h2
        rw [if_pos hi]
        exact hQ A' g' a' w' hr' hk
      · rename_i hi
        have hi : i ≠ id := fun e => by subst e; simp at hi
        simp only [pure_ok, Prod.mk.injEq] at h2
        obtain ⟨rfl, rfl, rfl⟩ := h2
        rw [if_neg hi]
        exact hQ A' g' a' w' hr' hk
    | ret =>
      simp only [pure_ok, Prod.mk.injEq] at h2
      obtain ⟨rfl, rfl, rfl⟩ := h2
      exact hQ A' g' a' w' hr' hk
  | .loop c, hc, hst, A, fr, st, ex, fr', st', g, a, w, Q, h, hr, hQ => by
    simp only [codeOk] at hc
    simp only [exec] at h
    refine wpIn_loop_rounds n (iter_sound (fun A fr st ex fr' st' g a w Q h hr hQ => exec_sound hX hm hsb n c hc hst A fr st ex fr' st' g a w Q h hr hQ) n h hr hQ)
  | .rangeFunc x ps y c, hc, _, A, fr, st, ex, fr', st', g, a, w, Q, h, hr, hQ => by
    simp only [codeOk, Bool.and_eq_true] at hc
    exact rangeF_sound hX (hsb := hsb) hc h hr hQ
  | .scope c, hc, hst, A, fr, st, ex, fr', st', g, a, w, Q, h, hr, hQ => by
    cases ro with
    | some l => exact absurd (hst (hsb rfl)) (by simp [straight])
    | none =>
      simp only [codeOk] at hc
      simp only [exec] at h
      refine wpIn_wide.2 (wp_scope_straight (wpIn_wide.1 (exec_sound (ro := none) hX hm hsb n c hc (fun e => absurd (hst e) (by simp [straight])) A fr st ex fr' st' g a w _ h hr fun A' g' a' w' hr' hk => ?_)))
      cases ex <;> exact hQ A' g' a' w' hr' hk
  | .goto _, _, _, _, _, _, _, _, _, _, _, _, _, h, _, _ => by simp [exec] at h
  | .refuse _, _, _, _, _, _, _, _, _, _, _, _, _, h, _, _ => by simp [exec] at h
end
section
variable {P : Program} {T : TT} {A : Nat → Prop} {g : Gh} {st : St} {w : World}
theorem putAll_get : ∀ (l : List AV) (i : Nat) (t : Tr AV) (k : Nat), (putAll i l t).get k = if i ≤ k ∧ k < i + l.length then l[k - i]? else t.get k
  | [], i, t, k => by
    simp only [putAll, List.length_nil, Nat.add_zero]
    rw [if_neg (by omega)]
  | v :: l, i, t, k => by
    simp only [putAll, putAll_get l (i + 1), Tr.get_put, List.length_cons]
    by_cases h : i = k
    · subst h
      rw [if_neg (by omega), if_pos rfl, if_pos (by omega)]
      simp
    · rw [if_neg h]
      by_cases h2 : i + 1 ≤ k ∧ k < i + 1 + l.length
      · rw [if_pos h2, if_pos (by omega), show k - i = (k - (i + 1)) + 1 by omega]; simp
      · rw [if_neg h2, if_neg (by omega)]
theorem frameOf_sound {n : Nat} {args : List AV} {xs : List Value} (h : RL g args xs) (hn : args.length ≤ n) : FrR g (frameOf n args) (xs.toArray ++ Array.replicate (n - xs.toArray.size) Go.undef) := by
  have hl := RL_len h
  refine ⟨by simp [frameOf]; omega, fun t => .inr ?_⟩
  simp only [frameOf, Fr.get, putAll_get, Nat.zero_add, Nat.zero_le, true_and, Nat.sub_zero, Tr.get_leaf]
  by_cases ht : t < args.length
  · rw [if_pos ht, List.getElem?_eq_getElem ht]
    obtain ⟨x, h1, h2⟩ := RL_getElem? h (List.getElem?_eq_getElem ht)
    have hx : (xs.toArray ++ Array.replicate (n - xs.toArray.size) Go.undef).getD t Go.undef = x := by
      rw [Array.getD_eq_getD_getElem?, Array.getElem?_append_left (by simp; omega)]
      simp [h1]
    rw [hx]
    exact h2
  · rw [if_neg ht]
    have hx : (xs.toArray ++ Array.replicate (n - xs.toArray.size) Go.undef).getD t Go.undef = Go.undef := by
      rw [Array.getD_eq_getD_getElem?, Array.getElem?_append_right (by simp; omega)]
      rw [Array.getElem?_replicate]
      split <;> rfl
    rw [hx]
    exact R_undef
def readR (tmps : Array Value) (r : ResultVar) : Sem Value :=
  match r with
  | .tmp t => pure (tmps.getD t Go.undef)
  | .cell a t => do loadVar t (← asAddr (tmps.getD a Go.undef))
theorem results_eq (fn : Func) (tmps : Array Value) : results fn tmps = (do
    let vs ← fn.results.mapM (readR tmps)
    pure (if h : vs.size = 1 then vs[0] else .tuple vs)) := by
  unfold results
  congr 2
theorem resultsOf_sound (hT : TOk P T) {fr : Fr} {tmps : Array Value} (hf : FrR g fr tmps) (hs : fr.strict = false) (h : Inv T A g st w) : ∀ {rs : List ResultVar} {vs : List AV}, resultsOf T fr st rs = .ok vs →
    ∃ xs, (rs.mapM (readR tmps)).run P w = .ok xs w ∧ RL g vs xs
  | [], vs, hr => by
    simp only [resultsOf, Except.ok.injEq] at hr
    subst hr
    exact ⟨[], rfl, RL_nil⟩
  | r :: rs, vs, hr => by
    simp only [resultsOf, bind_ok, pure_ok] at hr
    obtain ⟨v, h1, vs', h2, rfl⟩ := hr
    obtain ⟨xs, k1, k2⟩ := resultsOf_sound hT hf hs h h2
    have key : ∃ x, (readR tmps r).run P w = .ok x w ∧ R g v x := by
      cases r with
      | tmp t =>
        simp only [resultOf, Except.ok.injEq] at h1
        subst h1
        exact ⟨_, rfl, hf.at hs t⟩
      | cell a t =>
        simp only [resultOf, bind_ok] at h1
        obtain ⟨i, e1, p, e2, e3⟩ := h1
        have hi := hT t i (ti_ok.1 e1)
        have ha := hf.at hs a
        show ∃ x, (do loadVar t (← Go.asAddr (tmps.getD a Go.undef)) : Sem Value).run P w = .ok x w ∧ R g v x
        generalize tmps.getD a Go.undef = x at ha ⊢
        cases hav : fr.get a <;> rw [hav] at e2 ha <;> simp only [loadP] at e2 <;> (try (cases e2; done))
        · rename_i cells
          simp only [bind_ok, pure_ok] at e2
          obtain ⟨u, q1, rfl⟩ := e2
          simp only [pure_ok] at e3
          subst e3
          simp only [R] at ha
          obtain ⟨_, b, o, rfl, h3⟩ := ha
          obtain ⟨ys, y1, y2⟩ := RAt_vals h3
          obtain ⟨y, z1, z2⟩ := run_loadVar_cells (w := w) hi q1 y1 fun k z hz => h.F _ _ _ (y2 k z hz).1
          exact ⟨y, by simp [asAddr, z1], z2⟩
        · rename_i id off
          simp only [Except.ok.injEq] at e2
          subst e2
          simp only [readP, bind_ok, pure_ok] at e3
          obtain ⟨o, q1, ⟨v', o'⟩, ⟨v'', ⟨cs, q2, q3⟩, q4⟩, q5⟩ := e3
          rw [cellsOf_ok] at q2
          obtain ⟨ty, rfl⟩ := q2
          simp only [Prod.mk.injEq] at q4
          obtain ⟨rfl, rfl⟩ := q4
          subst q5
          simp only [R] at ha
          obtain ⟨b, hE, rfl⟩ := ha
          obtain ⟨b', ys, rest, ty2, y1, y2, y3, y4, y5, y6⟩ := h.cells q1
          have hb : b' = b := by have := y1.symm.trans hE; simpa using this
          subst hb
          obtain ⟨y, z1, z2⟩ := run_loadVar_cells (w := w) (b := b') (o := off) hi q3 (RL_drop off y3) fun k z hz => cell_pre y2 (by simpa using hz)
          exact ⟨y, by simp [asAddr, z1], z2⟩
        · rename_i k n off
          simp only [Except.ok.injEq] at e2
          subst e2
          simp only [readP, bind_ok, pure_ok] at e3
          obtain ⟨o, q1, ⟨v', o'⟩, ⟨v'', q2, q4⟩, q5⟩ := e3
          simp only [Prod.mk.injEq] at q4
          obtain ⟨rfl, rfl⟩ := q4
          subst q5
          simp only [R] at ha
          obtain ⟨loc, b, cap, hE, hl, rfl⟩ := ha
          split at q2
          · rename_i m e z cs
            split at q2
            · rename_i hm
              have hm := Nat.eq_of_beq_eq_true hm
              subst hm
              obtain ⟨loc2, b2, cap2, i2, pre, rest, p1, p2, p3, p4, p5, p6, p7, p8, p9, p10, p11, p12, p13⟩ := h.H k _ q1
              have e1 := p1.symm.trans hE
              simp only [Option.some.injEq, Ent.tok.injEq] at e1
              subst e1
              have e2 := p2.symm.trans hl
              simp only [Option.some.injEq, Prod.mk.injEq] at e2
              obtain ⟨rfl, rfl⟩ := e2
              obtain ⟨y, z1, z2⟩ := run_loadVar_cells (w := w) (b := b2) (o := off) hi q2 (RL_drop off p11) fun k z hz => cell_pre p7 (by simpa using hz)
              exact ⟨y, by simp [asAddr, z1], z2⟩
            · cases q2
          · cases q2
    obtain ⟨x, x1, x2⟩ := key
    refine ⟨x :: xs, ?_, RL_cons x2 k2⟩
    rw [List.mapM_cons]
    simp only [Sem.run_bind, x1, Result.andThen_ok, k1, Sem.run_pure]
theorem At_obj {id b : Nat} {o : Obj} (h : Holds T g w id o) (ha : At g id o b) : ∃ x, w.heap[b]? = some x ∧ ∀ d, x ≠ .deferred d := by
  have blk : ∀ {b' : Nat} {x : Go.Obj}, g.E id = some (.blk b') → g.E id = some (.blk b) → w.heap[b']? = some x → (∀ d, x ≠ .deferred d) → ∃ x, w.heap[b]? = some x ∧ ∀ d, x ≠ .deferred d := fun h1 h2 h3 h4 => by
    have := h1.symm.trans h2
    simp only [Option.some.injEq, Ent.blk.injEq] at this
    subst this
    exact ⟨_, h3, h4⟩
  have tok : ∀ {n : Nat} {loc : Nat → Option (Nat × Nat)} {b' cap : Nat} {x : Go.Obj}, g.E id = some (.tok loc) → loc n = some (b', cap) → (∃ loc cap, g.E id = some (.tok loc) ∧ loc n = some (b, cap)) → w.heap[b']? = some x → (∀ d, x ≠ .deferred d) →
      ∃ x, w.heap[b]? = some x ∧ ∀ d, x ≠ .deferred d := fun h1 h2 h3 h4 h5 => by
    obtain ⟨loc', cap', k1, k2⟩ := h3
    have e1 := h1.symm.trans k1
    simp only [Option.some.injEq, Ent.tok.injEq] at e1
    subst e1
    have e2 := h2.symm.trans k2
    simp only [Option.some.injEq, Prod.mk.injEq] at e2
    obtain ⟨rfl, rfl⟩ := e2
    exact ⟨_, h4, h5⟩
  cases o with
  | cells ty cs => obtain ⟨b', vs, rest, ty', h1, h2, h3⟩ := h; exact blk h1 ha h2 fun _ e => by cases e
  | tok n e => obtain ⟨loc, b', cap, i, vs, fz, h1, h2, h3, h4, h5, h6, h7, h8⟩ := h; exact tok h1 h2 ha h7 fun _ e => by cases e
  | map es => obtain ⟨b', ents, clk, h1, h2, h3⟩ := h; exact blk h1 ha h2 fun _ e => by cases e
  | sit s pos => obtain ⟨b', h1, h2⟩ := h; exact blk h1 ha h2 fun _ e => by cases e
  | dead => exact ha.elim
  | grow n e z es => obtain ⟨loc, b', cap, i, vs, fz, h1, h2, h3, h4, h5, h6, h7, h8⟩ := h; exact tok h1 h2 ha h7 fun _ e => by cases e
  | egg => exact ha.elim
  | row n e z cs => obtain ⟨loc, b', cap, i, pre, rest, h1, h2, h3, h4, h5, h6, h7, h8⟩ := h; exact tok h1 h2 ha h7 fun _ e => by cases e
  | loop imm ps a c fr s p => obtain ⟨b', r, h1, h2, h3⟩ := h; exact blk h1 ha h2 fun _ e => by cases e
theorem Inv.take (h : Inv T A g st w) {D : Nat} {x : Option (List Deferred)} (hD : w.heap[D]? = some (.deferred x)) : Inv T A g st (w.putObj D (.deferred none)) := by
  have hne : ∀ b, b ≠ D → (w.putObj D (.deferred none)).heap[b]? = w.heap[b]? := fun b hb => World.putObj_heap_other hb
  refine ⟨fun b o v hv => ?_, fun b ents clk hm => ?_, h.E, fun id o ho => ?_, h.D, h.own, fun b hb => h.up b (by simpa using hb), fun c => ⟨fun b o v ha hv => ?_, fun id o b ho hb => ?_⟩⟩
  · have h1 := h.F b o v hv
    obtain ⟨vs, ty, fz, h2, _⟩ := cells_of h1
    rw [cell_congr (hne b fun e => by subst e; rw [hD] at h2; cases h2)]
    exact h1
  · have h1 := h.M b ents clk hm
    rw [hne b fun e => by subst e; rw [hD] at h1; cases h1]
    exact h1
  · refine Holds_congr (h.H id o ho) fun b hb => hne b fun e => ?_
    subst e
    obtain ⟨y, h1, h2⟩ := At_obj (h.H id o ho) hb
    rw [hD] at h1
    cases h1
    exact h2 _ rfl
  · have h1 := h.F b o v hv
    obtain ⟨vs, ty, fz, h2, _⟩ := cells_of h1
    rw [frz_congr (hne b fun e => by subst e; rw [hD] at h2; cases h2)]
    exact (h.C c).1 b o v ha hv
  · refine ((h.C c).2 id o b ho hb).congr (hne b fun e => ?_)
    subst e
    obtain ⟨y, h1, h2⟩ := At_obj (h.H id o ho) hb
    rw [hD] at h1
    cases h1
    exact h2 _ rfl
theorem leaves_of {T : TT} {A' : Nat → Prop} {g' : Gh} {st1 : St} {fn : Func} {tmps : Array Value} {R : Ending → World → Prop} {w : World} {g : Gh}
    (hq : ∀ w', Inv T A' g' st1 w' → Kp A g w g' w' → LeavesIn Fence.wide 0 P fn tmps R [] .returning w') : ∀ (Ds : List Nat) (w' : World), Ds.Nodup → (∀ D ∈ Ds, A D ∧ w'.heap[D]? = some (.deferred (some []))) → Inv T A' g' st1 w' → Kp A g w g' w' →
      LeavesInM Fence.wide 0 P fn tmps R (Ds.map mark) .returning w'
  | [], w', _, _, hi, hk => hq w' hi hk
  | D :: Ds, w', hn, hm, hi, hk => by
    obtain ⟨hA, hD⟩ := hm D (by simp)
    rw [List.nodup_cons] at hn
    refine ⟨by simp, .inl ⟨D, _, rfl, run_takeDeferred hD, leaves_of hq Ds _ hn.2 (fun D' hD' => ⟨(hm D' (by simp [hD'])).1, ?_⟩) (hi.take hD) (hk.trans (Kp.write hA World.putObj_size fun b hb => World.putObj_heap_other hb))⟩⟩
    rw [World.putObj_heap_other (fun e => by subst e; exact hn.1 hD')]
    exact (hm D' (by simp [hD'])).2
theorem body_sound {X : Cx} (hX : Good P X) (hm : P.follows .mixedOrders = true) {n : Nat} {f : FuncId} {fn : Func} {args : List AV} {v : AV} {st' : St} {xs : List Value} (hfn : P.funcs[f]? = some fn)
    (hc : ∀ c, fn.body = some c → codeOk c = true) (h : body X n fn args st = .ok (v, st')) (hr : RL g args xs) (hG : GR g X.G) (hi : Inv X.T A g st w) :
    Calls P f xs.toArray w fun e w' => ∃ x, e = .returned x ∧ Post X.T A g st' w v x w' := by
  unfold body at h
  split at h
  · cases h
  · rename_i c hbody
    split at h
    · cases h
    · rename_i hle
      have hle := Nat.le_of_ble_eq_true hle
      simp only [bind_ok] at h
      obtain ⟨⟨ex, fr', st1⟩, h1, h2⟩ := h
      refine (callsIn_wide (n := 0)).1 (callsIn_of_wp_marks hfn hbody trivial ?_)
      refine exec_sound (ro := none) (sb := false) hX hm (fun e => by cases e) n c (hc c hbody) (fun e => by cases e) A _ _ _ _ _ g _ w _ h1 ⟨rfl, frameOf_sound hr hle, hi, hG, ⟨[], rfl, List.nodup_nil, fun _ h => by cases h⟩⟩ fun A' g' a' w1 hr' hk => ?_
      have fin : (do pure (oneOf (← resultsOf X.T fr' st1 fn.results.toList), st1) : Res (AV × St)) = .ok (v, st') → LeavesInM Fence.wide 0 P fn a'.tmps (fun e w' => ∃ x, e = .returned x ∧ Post X.T A g st' w v x w') a'.defers .returning w1 := fun he => by
        simp only [bind_ok, pure_ok, Prod.mk.injEq] at he
        obtain ⟨vs, e1, rfl, rfl⟩ := he
        obtain ⟨Ds, m1, m2, m3⟩ := hr'.marks
        rw [m1]
        refine leaves_of (T := X.T) (A' := A') (g' := g') (st1 := st1) (A := A) (g := g) (w := w) (fun w' hi' hkp => ?_) Ds w1 m2 (fun D hD => ⟨?_, (m3 D hD).2⟩) hr'.inv hk.kp
        rotate_left
        · rcases hk.defs (mark D) (by rw [m1]; exact List.mem_map_of_mem hD) with hd | ⟨D', e, hA'⟩
          · cases hd
          · have : D = D' := by
              simp only [mark, Deferred.mk.injEq, Target.collected.injEq, and_true] at e
              exact e
            rw [this]; exact hA'
        obtain ⟨ys, y1, y2⟩ := resultsOf_sound hX.T hr'.fr (by rw [hr'.mode]) hi' e1
        have hm' : (fn.results.mapM (readR a'.tmps)).run P w' = .ok ys.toArray w' := by
          rw [Array.mapM_eq_mapM_toList]
          simp only [Sem.run_map, y1, Result.andThen_ok]
        have hi2 : Inv X.T A g' st1 w' := ⟨hi'.F, hi'.M, hi'.E, hi'.H, hi'.D, fun id o b q1 q2 q3 => hk.sub b (hi'.own id o b q1 q2 q3), fun b hb => hi.up b (Nat.le_trans hkp.size hb), fun c => ⟨fun b o v ha hv => (Classical.em (A' b)).elim (fun h2 => (hi'.C c).1 b o v h2 hv) (fun h2 => by rw [hk.out b ha h2 o] at hv; cases hv), (hi'.C c).2⟩⟩
        refine ⟨if h : ys.toArray.size = 1 then ys.toArray[0] else .tuple ys.toArray, ?_, _, rfl, g', ?_, hi2, hkp⟩
        · rw [results_eq]
          simp only [Sem.run_bind, hm', Result.andThen_ok, Sem.run_pure]
        · cases vs with
          | nil =>
            simp only [RL] at y2
            subst y2
            simp only [oneOf, R]
            exact ⟨_, rfl, RL_nil⟩
          | cons v1 vs =>
            cases vs with
            | nil =>
              simp only [RL] at y2
              obtain ⟨x, l, rfl, r1, rfl⟩ := y2
              exact r1
            | cons v2 vs =>
              have hl := RL_len y2
              rw [dif_neg (by simp at hl ⊢; omega)]
              simp only [oneOf, R]
              exact ⟨_, rfl, y2⟩
      cases ex with
      | normal => exact fin h2
      | ret => exact fin h2
      | exit id => cases h2
end
end Go.VM
namespace Go.VM
open Classical in
noncomputable def Gh.frz (g : Gh) (s : St) (w : World) (base : Nat) (E0 : Nat → Option Ent) : Gh where
  F b o := if ∃ id ty cs, base ≤ id ∧ s.get id = .ok (.cells ty cs) ∧ g.E id = some (.blk b) then w.cell? ⟨b, o, none⟩ else g.F b o
  M b := if ∃ id es, base ≤ id ∧ s.get id = .ok (.map es) ∧ g.E id = some (.blk b) then (match w.heap[b]? with | some (.map ents clk) => some (ents.toList, clk) | _ => none) else g.M b
  E := E0
  C := g.C
section
variable {P : Program} {T : TT} {A : Nat → Prop} {g : Gh} {s : St} {w : World} {base : Nat}
theorem frz_F (h : Inv T A g s w) (E0 : Nat → Option Ent) : LeF g (g.frz s w base E0) := by
  refine ⟨fun b o v hv => ?_, fun b e he => ?_⟩
  · simp only [Gh.frz]
    split
    · exact h.F b o v hv
    · exact hv
  · simp only [Gh.frz]
    split
    · rename_i hc
      obtain ⟨id, es, _, h2, h3⟩ := hc
      obtain ⟨b', ents, clk, q1, q2, q3, q4⟩ := h.H id _ h2
      have : b' = b := by have := q1.symm.trans h3; simpa using this
      subst this
      rw [q4] at he; cases he
    · exact he
theorem frz_le (h : Inv T A g s w) : Le g (g.frz s w base g.E) := ⟨(frz_F h g.E).F, (frz_F h g.E).M, fun _ _ x => x, fun _ loc x => ⟨loc, x, fun _ _ y => y⟩, Iff.rfl⟩
theorem frz_cells (_h : Inv T A g s w) {id b : Nat} {ty : TypeId} {cs : List AV} (E0 : Nat → Option Ent) (hb : base ≤ id) (hg : s.get id = .ok (.cells ty cs)) (hE : g.E id = some (.blk b)) (o : Nat) : (g.frz s w base E0).F b o = w.cell? ⟨b, o, none⟩ := by
  simp only [Gh.frz]
  rw [if_pos ⟨id, ty, cs, hb, hg, hE⟩]
theorem freeze_sound (h : Inv T A g s w) : ∀ (f : Nat) (v v' : AV) (x : Value), freeze s base f v = .ok v' → R g v x → R (g.frz s w base g.E) v' x
  | 0, v, v', x, hf, _ => by simp [freeze] at hf
  | f + 1, v, v', x, hf, hr => by
    have all : ∀ (l l' : List AV) (xs : List Value), allE (freeze s base f) l = .ok l' → RL g l xs → RL (g.frz s w base g.E) l' xs := by
      intro l
      induction l with
      | nil =>
        intro l' xs h1 h2
        simp only [allE, Except.ok.injEq] at h1
        subst h1
        simp only [RL] at h2 ⊢; exact h2
      | cons v l ih =>
        intro l' xs h1 h2
        simp only [allE, bind_ok, pure_ok] at h1
        obtain ⟨u, e1, l1, e2, rfl⟩ := h1
        simp only [RL] at h2
        obtain ⟨y, ys, rfl, r1, r2⟩ := h2
        exact RL_cons (freeze_sound h f v u y e1 r1) (ih l1 ys e2 r2)
    have same : v' = v → R (g.frz s w base g.E) v' x := fun e => by subst e; exact R_mono (frz_le h) _ _ hr
    unfold freeze at hf
    split at hf
    · -- a pointer
      rename_i id off
      split at hf
      · simp only [Except.ok.injEq] at hf
        exact same hf.symm
      · rename_i hid
        rw [blt_false] at hid
        simp only [bind_ok] at hf
        obtain ⟨o, e1, e2⟩ := hf
        split at e2
        · rename_i ty cs
          simp only [bind_ok, pure_ok] at e2
          obtain ⟨c1, e3, c2, e4, rfl⟩ := e2
          simp only [R] at hr
          obtain ⟨b, hE, rfl⟩ := hr
          obtain ⟨b', vs, rest, ty2, k1, k2, k3, k4, k5, k6⟩ := h.cells e1
          have hb : b' = b := by have := k1.symm.trans hE; simpa using this
          subst hb
          have r1 := all _ _ _ e3 (RL_drop off k3)
          obtain ⟨r2, r3⟩ := RL_fits r1 e4
          simp only [R]
          refine ⟨r3, b', off, rfl, RAt_of_vals r2 fun i y hy => ⟨?_, k4 y (List.mem_of_mem_drop (List.mem_of_getElem? hy))⟩⟩
          rw [frz_cells h g.E hid e1 k1]
          exact cell_pre k2 (by simpa using hy)
        · cases e2
    · rename_i id
      split at hf
      · simp only [Except.ok.injEq] at hf
        exact same hf.symm
      · rename_i hid
        rw [blt_false] at hid
        simp only [bind_ok] at hf
        obtain ⟨o, e1, e2⟩ := hf
        split at e2
        · rename_i es
          simp only [bind_ok] at e2
          obtain ⟨es1, e3, e4⟩ := e2
          split at e4
          · simp only [pure_ok] at e4
            subst e4
            simp only [R] at hr
            obtain ⟨b, hE, rfl⟩ := hr
            obtain ⟨b', ents, clk, q1, q2, q3, q4⟩ := h.H id _ e1
            have hb : b' = b := by have := q1.symm.trans hE; simpa using this
            subst hb
            have ents_all : ∀ (l l' : List (AV × AV)) (m : List MapEntry), entriesE (freeze s base f) l = .ok l' → REs g l m → REs (g.frz s w base g.E) l' m := by
              intro l
              induction l with
              | nil =>
                intro l' xs h1 h2
                simp only [entriesE, Except.ok.injEq] at h1
                subst h1
                simp only [REs] at h2 ⊢; exact h2
              | cons p l ih =>
                intro l' xs h1 h2
                obtain ⟨k, v⟩ := p
                simp only [entriesE, bind_ok, pure_ok] at h1
                obtain ⟨u, e1, l1, e2, rfl⟩ := h1
                simp only [REs] at h2 ⊢
                obtain ⟨e, ys, rfl, r1, r2, r3⟩ := h2
                exact ⟨e, ys, rfl, R_mono (frz_le h) _ _ r1, R_strip (freeze_sound h f v u _ e1 r2), ih l1 ys e2 r3⟩
            simp only [R]
            refine ⟨b', ents.toList, clk, ?_, rfl, ents_all _ _ _ e3 q3⟩
            simp only [Gh.frz]
            rw [if_pos ⟨id, es, hid, e1, q1⟩, q2]
          · cases e4
        · cases e2
    · rename_i z e k
      split at hf
      · simp only [Except.ok.injEq] at hf
        exact same hf.symm
      · simp only [Except.ok.injEq] at hf
        subst hf
        exact R_strip (v := .sl z e (.own k)) (R_mono (frz_le h) _ _ hr)
    · simp only [bind_ok, pure_ok] at hf
      obtain ⟨c1, e3, rfl⟩ := hf
      simp only [R] at hr ⊢
      obtain ⟨ys, rfl, r⟩ := hr
      exact ⟨ys, rfl, all _ _ _ e3 r⟩
    · simp only [bind_ok, pure_ok] at hf
      obtain ⟨c1, e3, rfl⟩ := hf
      simp only [R] at hr ⊢
      obtain ⟨ys, rfl, r⟩ := hr
      exact ⟨ys, rfl, all _ _ _ e3 r⟩
    · simp only [bind_ok, pure_ok] at hf
      obtain ⟨c1, e3, rfl⟩ := hf
      simp only [R] at hr ⊢
      obtain ⟨y, rfl, r⟩ := hr
      exact ⟨y, rfl, freeze_sound h f _ c1 y e3 r⟩
    · simp only [bind_ok, pure_ok] at hf
      obtain ⟨c1, e3, c2, e4, rfl⟩ := hf
      simp only [R] at hr ⊢
      obtain ⟨y, y', rfl, r, r'⟩ := hr
      exact ⟨y, y', rfl, all _ _ _ e3 r, all _ _ _ e4 r'⟩
    · -- an array
      rename_i id off z len cap
      split at hf
      · simp only [Except.ok.injEq] at hf
        exact same hf.symm
      · rename_i hid
        rw [blt_false] at hid
        simp only [bind_ok] at hf
        obtain ⟨o, e1, e2⟩ := hf
        split at e2
        · rename_i ty cs
          simp only [bind_ok] at e2
          obtain ⟨c1, e3, e4⟩ := e2
          split at e4
          · rename_i hones
            simp only [bind_ok] at e4
            obtain ⟨els, e5, els', e6, e7⟩ := e4
            have key : ∃ p, v' = .sl z els' p ∧ (len ≠ 0 ∨ cap ≠ 0) ∧ (p = .shut → cap = len ∧ cap ≠ 0) ∧ (p = .shut ∨ p = .wide) := by
              split at e7
              · split at e7
                · cases e7
                · rename_i hl
                  simp only [pure_ok] at e7
                  exact ⟨.wide, e7.symm, .inl (fun e => by subst e; simp at hl), (fun e => by cases e), .inr rfl⟩
              · rename_i hcap
                simp only [pure_ok] at e7
                have h0 : cap ≠ 0 := fun e => by subst e; simp at hcap
                cases hcl : cap.beq len with
                | true => rw [hcl] at e7; exact ⟨.shut, e7.symm, .inr h0, fun _ => ⟨Nat.eq_of_beq_eq_true hcl, h0⟩, .inl rfl⟩
                | false => rw [hcl] at e7; exact ⟨.wide, e7.symm, .inr h0, (fun e => by cases e), .inr rfl⟩
            clear e7
            obtain ⟨p, rfl, hne, hshut, hpp⟩ := key
            · simp only [R] at hr
              obtain ⟨b, o', hE, c, rfl, hc, hz1, ho, hcc⟩ := hr
              have hc0 : c ≠ 0 := by
                rcases hne with q | q
                · omega
                · rcases hcc with rfl | e
                  · exact q
                  · exact absurd e q
              have ho' : o' = off := ho hc0
              subst ho'
              obtain ⟨b', vs, rest, ty2, k1, k2, k3, k4, k5, k6⟩ := h.cells e1
              have hb : b' = b := by have := k1.symm.trans hE; simpa using this
              subst hb
              have r1 := all _ _ _ e3 (RL_take (len * z) (RL_drop o' k3))
              obtain ⟨f1, f2, f3⟩ := group_flat (fun e => by
                have : ¬ 2 ≤ z := fun k => by rw [Nat.ble_eq_true_of_le k] at e; cases e
                omega) hones e5
              have r2 : RL (g.frz s w base g.E) (flat els) (((vs.toList.drop o').take (len * z)).take (len * z)) := by rw [f1]; exact RL_take _ r1
              obtain ⟨q1, q2, q3, q4⟩ := fits_flat e6 r2
              simp only [R]
              have hl : els'.length = len := by rw [q3, f3]
              refine ⟨q2, b', o', c, by rw [hl], by rw [hl]; exact hc, hz1, ?_, ?_⟩
              · rw [RAtE_iff]
                refine ⟨fun u hu => by
                  have : u.cells.length ∈ els'.map (·.cells.length) := List.mem_map.2 ⟨u, hu, rfl⟩
                  rw [q4] at this
                  obtain ⟨u', hu', e⟩ := List.mem_map.1 this
                  rw [← e]; exact f2 u' hu', RAt_of_vals q1 fun i y hy => ?_⟩
                have hy' : vs[o' + i]? = some y ∧ y ∈ vs.toList := by
                  have h1 : y ∈ vs.toList := List.mem_of_mem_drop (List.mem_of_mem_take (List.mem_of_mem_take (List.mem_of_getElem? hy)))
                  refine ⟨?_, h1⟩
                  rw [List.take_take, Nat.min_self, List.getElem?_take] at hy
                  by_cases hi : i < len * z
                  · rw [if_pos hi] at hy
                    simpa using hy
                  · rw [if_neg hi] at hy; cases hy
                refine ⟨?_, k4 y hy'.2⟩
                rw [frz_cells h g.E hid e1 k1]
                exact cell_pre k2 hy'.1
              · rcases hpp with rfl | rfl
                · obtain ⟨h1, h2⟩ := hshut rfl
                  simp only [permR]
                  rw [hl]
                  rcases hcc with e | e
                  · omega
                  · exact absurd e h2
                · simp only [permR]
          · cases e4
        · cases e2
    · -- a slice that an object holds
      rename_i k z n
      split at hf
      · simp only [Except.ok.injEq] at hf
        exact same hf.symm
      · simp only [bind_ok] at hf
        obtain ⟨o, e1, e2⟩ := hf
        split at e2
        · rename_i m e z' es
          split at e2
          · rename_i hcond
            simp only [Bool.and_eq_true] at hcond
            have c1 := Nat.eq_of_beq_eq_true hcond.1.1
            have c2 := Nat.eq_of_beq_eq_true hcond.1.2
            have c3 := Nat.eq_of_beq_eq_true hcond.2
            subst c1 c2 c3
            cases e2
            simp only [R] at hr
            obtain ⟨loc, b, cap, hE, hl, rfl, hcap, hz1⟩ := hr
            obtain ⟨loc2, b2, cap2, i2, vs, fz, q1, q2, q3, q4, q5, q6, q7, q8, q9, q10, q11, q12, q13, q14⟩ := h.H k _ e1
            have e1 := q1.symm.trans hE
            simp only [Option.some.injEq, Ent.tok.injEq] at e1
            subst e1
            have e2 := q2.symm.trans hl
            simp only [Option.some.injEq, Prod.mk.injEq] at e2
            obtain ⟨rfl, rfl⟩ := e2
            simp only [R]
            exact ⟨q13, b2, 0, cap2, rfl, hcap, hz1, RAtE_mono (frz_le h) _ _ _ _ q14, trivial⟩
          · cases e2
        · cases e2
    · simp only [Except.ok.injEq] at hf
      exact same hf.symm
theorem quiet_post {A' : Nat → Prop} {gb g' : Gh} {st : St} {w' : World} {v v' : AV} {x : Value} (hc : Inv T A g st w) (hF : gb.F = g.F) (hM : gb.M = g.M) (hC : gb.C ↔ g.C) (hA : ∀ b, A' b ↔ w.heap.size ≤ b)
    (hi : Inv T A' g' s w') (hk : Kp A' gb w g' w') (hro : s.ro ≤ base) (hr : R g' v x) (hf : freeze s base 100 v = .ok v') (hb : bare v' = true) : Post T A g st w v' x w' := by
  have hold : ∀ b, b < w.heap.size → ¬ A' b := fun b hb ha => by have := (hA b).1 ha; omega
  have hF' : ∀ b, b < w.heap.size → ∀ o, (g'.frz s w' base g.E).F b o = g.F b o := fun b hb o => by
    simp only [Gh.frz]
    rw [if_neg ?_]
    · rw [hk.F b (hold b hb) o, hF]
    · rintro ⟨id, ty, cs, h1, h2, h3⟩
      exact hold b hb (hi.own id _ b h2 h3 (by omega))
  have hM' : ∀ b, b < w.heap.size → (g'.frz s w' base g.E).M b = g.M b := fun b hb => by
    simp only [Gh.frz]
    rw [if_neg ?_]
    · rw [hk.M b (hold b hb), hM]
    · rintro ⟨id, es, h1, h2, h3⟩
      exact hold b hb (hi.own id _ b h2 h3 (by omega))
  have hheap : ∀ b, b < w.heap.size → w'.heap[b]? = w.heap[b]? := fun b hb => hk.heap b (hold b hb)
  have hle : Le g (g'.frz s w' base g.E) := by
    refine ⟨fun b o u hu => ?_, fun b e he => ?_, fun _ _ x => x, fun _ loc x => ⟨loc, x, fun _ _ y => y⟩, hk.le.C.trans hC⟩
    · obtain ⟨vs, ty, fz, q, _⟩ := cells_of (hc.F b o u hu)
      rw [hF' b (lt_of_heap q) o]; exact hu
    · have := hc.M b e.1 e.2 he
      rw [hM' b (lt_of_heap this)]; exact he
  refine ⟨g'.frz s w' base g.E, R_bare (g := g'.frz s w' base g'.E) (g' := g'.frz s w' base g.E) ⟨fun _ _ _ x => x, fun _ _ x => x⟩ v' x hb (freeze_sound hi 100 v v' x hf hr), ⟨?_, ?_, hc.E, ?_, hc.D, hc.own, fun b hb => hc.up b (Nat.le_trans hk.size hb), fun c => ?_⟩, ⟨hk.size, ?_, ?_, ?_, hle, hk.rest⟩⟩
  · intro b o u hu
    simp only [Gh.frz] at hu
    split at hu
    · exact hu
    · exact hi.F b o u hu
  · intro b ents clk hm
    simp only [Gh.frz] at hm
    split at hm
    · split at hm
      · rename_i e c hh
        simp only [Option.some.injEq, Prod.mk.injEq] at hm
        obtain ⟨rfl, rfl⟩ := hm
        simpa using hh
      · cases hm
    · exact hi.M b ents clk hm
  · intro id o ho
    have := hc.H id o ho
    refine Holds_mono (Holds_congr this fun b hb => hheap b (At_lt this hb)) hle rfl fun b hb => ?_
    have hlt := At_lt this hb
    exact ⟨fun o => hF' b hlt o, hM' b hlt⟩
  · have c0 : g.C := hC.1 (hk.le.C.1 c)
    refine ⟨fun b o v ha hv => ?_, fun id o b ho hb => ((hc.C c0).2 id o b ho hb).congr (hheap b (At_lt (hc.H id o ho) hb))⟩
    by_cases hlt : b < w.heap.size
    · rw [hF' b hlt o] at hv
      rw [frz_congr (hheap b hlt)]
      exact (hc.C c0).1 b o v ha hv
    · have hA' : A' b := (hA b).2 (by omega)
      simp only [Gh.frz] at hv
      split at hv
      · rename_i hx
        obtain ⟨id, ty, cs, _, h2, h3⟩ := hx
        exact ((hi.C c).2 id _ b h2 h3).sof o
      · exact (hi.C c).1 b o v hA' hv
  · intro b hb
    exact hheap b (Nat.lt_of_not_le fun k => hb (hc.up b k))
  · intro b hb o
    exact hF' b (Nat.lt_of_not_le fun k => hb (hc.up b k)) o
  · intro b hb
    exact hM' b (Nat.lt_of_not_le fun k => hb (hc.up b k))
end
end Go.VM
namespace Go.VM
structure RoOk (C : Caller) : Prop where
  wide : ∀ f args st v s, C.wide f args st = .ok (v, s) → s.ro = st.ro
  round : ∀ k args st v s, C.round k args st = .ok (v, s) → s.ro = st.ro
theorem runPlan_ro {C : Caller} (hC : RoOk C) {st : St} {p : Plan} {v : AV} {x : Fx} (h : runPlan C st p = .ok (v, x)) : (x.did.app st).ro = st.ro := by
  cases p with
  | val u =>
    simp only [runPlan, Except.ok.injEq, Prod.mk.injEq] at h
    obtain ⟨_, rfl⟩ := h; rfl
  | obj id f =>
    simp only [runPlan, bind_ok, pure_ok] at h
    obtain ⟨ob, h3, ⟨v', o'⟩, h4, d, h5, h6⟩ := h
    simp only [Prod.mk.injEq] at h6
    obtain ⟨_, rfl⟩ := h6
    cases o' with
    | none => simp only [didOf, Except.ok.injEq] at h5; subst h5; rfl
    | some o' =>
      simp only [didOf] at h5
      split at h5
      · cases h5
      · simp only [Except.ok.injEq] at h5; subst h5; rfl
  | both id k f =>
    simp only [runPlan, bind_ok] at h
    obtain ⟨ob, _, r, _, h3⟩ := h
    cases r with
    | none =>
      simp only [bind_ok, pure_ok, Prod.mk.injEq] at h3
      obtain ⟨_, _, _, rfl⟩ := h3; rfl
    | some j =>
      dsimp only at h3
      split at h3
      · simp only [bind_ok, pure_ok, Prod.mk.injEq] at h3
        obtain ⟨_, _, _, _, _, rfl⟩ := h3; rfl
      · cases h3
  | new o f =>
    simp only [runPlan, Except.ok.injEq, Prod.mk.injEq] at h
    obtain ⟨_, rfl⟩ := h; rfl
  | call f args =>
    simp only [runPlan] at h
    split at h
    · simp only [bind_ok, pure_ok] at h
      obtain ⟨_, _, h⟩ := h
      simp only [Prod.mk.injEq] at h
      obtain ⟨_, rfl⟩ := h; rfl
    · split at h
      · simp only [bind_ok, pure_ok] at h
        obtain ⟨_, _, h⟩ := h
        simp only [Prod.mk.injEq] at h
        obtain ⟨_, rfl⟩ := h; rfl
      · simp only [bind_ok, pure_ok] at h
        obtain ⟨⟨v', s⟩, h1, h⟩ := h
        simp only [Prod.mk.injEq] at h
        obtain ⟨_, rfl⟩ := h
        exact hC.wide _ _ _ _ _ h1
  | yield k args =>
    simp only [runPlan, bind_ok, pure_ok] at h
    obtain ⟨⟨v', s⟩, h1, h⟩ := h
    simp only [Prod.mk.injEq] at h
    obtain ⟨_, rfl⟩ := h
    exact hC.round _ _ _ _ _ h1
theorem opsFrom_ro {X : Cx} (hC : RoOk X.C) {all : List Oper} {draw : Bool} : ∀ {l : List Oper} {j : Nat} {seen : List (Nat × Fx)} {fr fr' : Fr} {st st' : St}, opsFrom X all draw j seen l fr st = .ok (fr', st') → st'.ro = st.ro
  | [], _, _, _, _, _, _, h => by
    simp only [opsFrom, Except.ok.injEq, Prod.mk.injEq] at h
    rw [h.2]
  | o :: l, j, seen, fr, fr', st, st', h => by
    simp only [opsFrom, bind_ok] at h
    obtain ⟨⟨v, x⟩, h1, h2⟩ := h
    have hx : (x.did.app st).ro = st.ro := by
      unfold oper at h1
      split at h1
      · simp only [bind_ok] at h1
        obtain ⟨p, _, h1⟩ := h1
        exact runPlan_ro hC h1
      · simp only [Except.ok.injEq, Prod.mk.injEq] at h1
        obtain ⟨_, rfl⟩ := h1; rfl
    split at h2
    · exact (opsFrom_ro hC h2).trans hx
    · split at h2
      · exact (opsFrom_ro hC h2).trans hx
      · cases h2
theorem lay_ro : ∀ {l : List Nat} {st : St}, (st.lay l).ro = st.ro
  | [], _ => rfl
  | _ :: l, st => lay_ro (l := l) (st := (st.new .egg).2)
theorem opsFromE_ro {X : Cx} (hC : RoOk X.C) {e : Nat → Option Nat} {all : List Oper} : ∀ {l : List Oper} {j : Nat} {seen : List (Nat × Fx)} {fr fr' : Fr} {st st' : St}, opsFromE X e all j seen l fr st = .ok (fr', st') → st'.ro = st.ro
  | [], _, _, _, _, _, _, h => by
    simp only [opsFromE, Except.ok.injEq, Prod.mk.injEq] at h
    rw [h.2]
  | o :: l, j, seen, fr, fr', st, st', h => by
    simp only [opsFromE, bind_ok] at h
    obtain ⟨⟨v, x⟩, h1, h2⟩ := h
    have hx : (x.did.app st).ro = st.ro := by
      unfold operE at h1
      split at h1
      · split at h1
        · obtain ⟨_, _, _, _, _, rfl⟩ := hatch_ok h1; rfl
        · simp only [bind_ok] at h1
          obtain ⟨p, _, h1⟩ := h1
          exact runPlan_ro hC h1
      · simp only [Except.ok.injEq, Prod.mk.injEq] at h1
        obtain ⟨_, rfl⟩ := h1; rfl
    split at h2
    · exact (opsFromE_ro hC h2).trans hx
    · split at h2
      · exact (opsFromE_ro hC h2).trans hx
      · cases h2
theorem iter_ro {body : Fr → St → Res (Ex × Fr × St)} (hb : ∀ fr st ex fr' st', body fr st = .ok (ex, fr', st') → st'.ro = st.ro) : ∀ (n : Nat) {fr fr' : Fr} {st st' : St} {ex : Ex}, iter body n fr st = .ok (ex, fr', st') → st'.ro = st.ro
  | 0, _, _, _, _, _, h => by simp [iter] at h
  | n + 1, fr, fr', st, st', ex, h => by
    simp only [iter, bind_ok] at h
    obtain ⟨⟨ex1, fr1, st1⟩, h1, h2⟩ := h
    have := hb _ _ _ _ _ h1
    cases ex1 <;> simp only [pure_ok, Prod.mk.injEq] at h2
    · exact (iter_ro hb n h2).trans this
    · rw [← h2.2.2]; exact this
    · rw [← h2.2.2]; exact this
theorem exec_ro {X : Cx} (hC : RoOk X.C) (n : Nat) : ∀ (c : Code) (fr : Fr) (st : St) (ex : Ex) (fr' : Fr) (st' : St), exec X n c fr st = .ok (ex, fr', st') → st'.ro = st.ro
  | .skip, _, _, _, _, _, h | .label _, _, _, _, _, _, h | .exit _, _, _, _, _, _, h | .ret, _, _, _, _, _, h => by
    simp only [exec, Except.ok.injEq, Prod.mk.injEq] at h
    rw [h.2.2]
  | .region _ _ _, _, _, _, _, _, h => by
    simp only [exec] at h
    split at h
    · simp only [bind_ok, pure_ok, Prod.mk.injEq] at h
      obtain ⟨⟨fr1, st1⟩, h1, rfl, rfl, rfl⟩ := h
      exact opsFrom_ro hC h1
    · simp only [bind_ok, pure_ok, Prod.mk.injEq] at h
      obtain ⟨⟨fr1, st1⟩, h1, rfl, rfl, rfl⟩ := h
      exact (opsFromE_ro hC h1).trans lay_ro
  | .seq x y, _, _, _, _, _, h => by
    simp only [exec, bind_ok] at h
    obtain ⟨⟨ex1, fr1, st1⟩, h1, h2⟩ := h
    have := exec_ro hC n x _ _ _ _ _ h1
    cases ex1 <;> simp only [pure_ok, Prod.mk.injEq] at h2
    · exact (exec_ro hC n y _ _ _ _ _ h2).trans this
    · rw [← h2.2.2]; exact this
    · rw [← h2.2.2]; exact this
  | .cond c x y, _, _, _, _, _, h => by
    simp only [exec, bind_ok] at h
    obtain ⟨cv, h1, b, h2, h3⟩ := h
    cases b
    · exact exec_ro hC n y _ _ _ _ _ h3
    · exact exec_ro hC n x _ _ _ _ _ h3
  | .block id c, _, _, _, _, _, h => by
    simp only [exec, bind_ok] at h
    obtain ⟨⟨ex1, fr1, st1⟩, h1, h2⟩ := h
    have := exec_ro hC n c _ _ _ _ _ h1
    cases ex1
    · simp only [pure_ok, Prod.mk.injEq] at h2; rw [← h2.2.2]; exact this
    · simp only at h2
      split at h2 <;> simp only [pure_ok, Prod.mk.injEq] at h2 <;> rw [← h2.2.2] <;> exact this
    · simp only [pure_ok, Prod.mk.injEq] at h2; rw [← h2.2.2]; exact this
  | .loop c, _, _, _, _, _, h => by
    simp only [exec] at h
    exact iter_ro (fun fr st ex fr' st' h => exec_ro hC n c fr st ex fr' st' h) n h
  | .rangeFunc x ps y c, _, _, _, _, _, h => by
    simp only [exec] at h
    split at h
    · cases h
    · simp only [bind_ok] at h
      obtain ⟨fv, h1, h⟩ := h
      split at h
      · simp only [bind_ok] at h
        obtain ⟨⟨v, st1⟩, h2, o, h3, h4⟩ := h
        dsimp only at h3 h4
        split at h4
        · split at h4
          · simp only [pure_ok, Prod.mk.injEq] at h4
            rw [← h4.2.2]
            have e := hC.wide _ _ _ _ _ h2
            exact e
          · cases h4
        · cases h4
      · cases h
  | .scope c, _, _, _, _, _, h => by
    simp only [exec] at h
    exact exec_ro hC n c _ _ _ _ _ h
  | .goto _, _, _, _, _, _, h => by simp [exec] at h
  | .refuse _, _, _, _, _, _, h => by simp [exec] at h
theorem body_ro {X : Cx} (hC : RoOk X.C) {n : Nat} {fn : Func} {args : List AV} {st st' : St} {v : AV} (h : body X n fn args st = .ok (v, st')) : st'.ro = st.ro := by
  unfold body at h
  split at h
  · cases h
  · split at h
    · cases h
    · simp only [bind_ok] at h
      obtain ⟨⟨ex, fr', st1⟩, h1, h2⟩ := h
      have := exec_ro hC n _ _ _ _ _ _ h1
      cases ex
      · simp only [bind_ok, pure_ok, Prod.mk.injEq] at h2
        obtain ⟨_, _, _, rfl⟩ := h2; exact this
      · cases h2
      · simp only [bind_ok, pure_ok, Prod.mk.injEq] at h2
        obtain ⟨_, _, _, rfl⟩ := h2; exact this
theorem roundE_ro {X : Cx} (hC : RoOk X.C) {n k : Nat} {x c : Code} {fr : Fr} {st st' : St} {v : AV} (h : roundE X n k x c fr st = .ok (v, st')) : st'.ro = st.ro := by
  simp only [roundE, bind_ok] at h
  obtain ⟨⟨ex1, fr1, st1⟩, h1, h⟩ := h
  have e1 := exec_ro hC n _ _ _ _ _ _ h1
  cases ex1 with
  | normal =>
    simp only [bind_ok] at h
    obtain ⟨st2, h2, ⟨ex, fr2, st3⟩, h3, h4⟩ := h
    obtain ⟨_, _, _, _, _, _, _, rfl⟩ := setLoop_ok h2
    have e3 := exec_ro hC n _ _ _ _ _ _ h3
    cases ex <;> simp only [bind_ok, pure_ok, Prod.mk.injEq] at h4 <;> obtain ⟨st4, h4, _, rfl⟩ := h4 <;> obtain ⟨_, _, _, _, _, _, _, rfl⟩ := setLoop_ok h4 <;> exact e3.trans e1
  | exit id => cases h
  | ret => cases h
theorem putArgs_sound {g : Gh} : ∀ {ps : List Nat} {args : List AV} {xs : List Value} {fr : Fr} {tmps : Array Value}, FrR g fr tmps → RL g args xs → ps.length = args.length →
    FrR g (putArgs ps args fr) ((ps.zip xs).foldl (fun t (p, v) => t.setIfInBounds p v) tmps) ∧ (putArgs ps args fr).strict = fr.strict
  | [], _, _, fr, tmps, h, _, _ => by simp only [putArgs, List.zip_nil_left, List.foldl_nil]; exact ⟨h, trivial⟩
  | p :: ps, [], _, _, _, _, _, hl => by cases hl
  | p :: ps, v :: vs, xs, fr, tmps, h, hr, hl => by
    simp only [RL] at hr
    obtain ⟨y, ys, rfl, r1, r2⟩ := hr
    have h1 := h.put r1 (some p)
    obtain ⟨k1, k2⟩ := putArgs_sound h1 r2 (by simpa using hl)
    simp only [putArgs, List.zip_cons_cons, List.foldl_cons]
    exact ⟨k1, k2.trans (put_strict _ _ _)⟩
theorem roundE_sound {P : Program} {X : Cx} (hX : Good P X) (hC : RoOk X.C) (hm : P.follows .mixedOrders = true) {n k : Nat} {imm : TypeId → Bool} {ps : List Tmp} {x c : Code} {fr : Fr} {p : Ex} {args : List AV} {st st' : St} {v : AV} (h : roundE X n k x c (putArgs ps args fr) st = .ok (v, st'))
    (hst : straight x = true ∧ straight c = true) (hlen : args.length = ps.length) (hk : st.get k = .ok (.loop imm ps x c fr 0 p)) (hro : st.ro ≤ k) {A : Nat → Prop} {g : Gh} {w : World} {xs : List Value} {l : Nat} (hG : GR g X.G) (hargs : RL g args xs) (hi : Inv X.T A g st w) (hE : g.E k = some (.blk l)) :
    RoundWp P l xs.toArray w (Post X.T A g st' w v) := by
  obtain ⟨b, r, q1, q2, q3, q4, q5, q6, ⟨q7, q8, q9⟩, q10⟩ := hi.H k _ hk
  have hb : b = l := by have := q1.symm.trans hE; simpa using this
  subst hb
  have hxs := RL_len hargs
  have hps : r.params.size = ps.length := by rw [← q4]; simp
  refine ⟨r.fn, _, r.assign, r.body, run_yield q2 (by simp; omega), roundIn_of_wpIn trivial ?_⟩
  rw [q5, q6]
  have hfold : (r.params.zip xs.toArray).foldl (fun tmps (t, a) => tmps.setIfInBounds t a) r.tmps = (ps.zip xs).foldl (fun t (p, v) => t.setIfInBounds p v) r.tmps := by
    rw [← Array.foldl_toList, Array.toList_zip, q4]
  rw [hfold]
  obtain ⟨f1, f2⟩ := putArgs_sound q3 hargs hlen.symm
  simp only [roundE, bind_ok] at h
  obtain ⟨⟨ex1, fr1, st1⟩, h1, h⟩ := h
  have e1 := exec_ro hC n _ _ _ _ _ _ h1
  cases ex1 with
  | exit id => cases h
  | ret => cases h
  | normal =>
  simp only [bind_ok] at h
  obtain ⟨st2, h2, ⟨ex, fr2, st3⟩, h3, h4⟩ := h
  obtain ⟨imm1, ps1, x1, c1, fr1', p1, hk1, rfl⟩ := setLoop_ok h2
  have e3 := exec_ro hC n _ _ _ _ _ _ h3
  refine exec_sound (ro := some b) (sb := true) hX hm (fun _ => rfl) n x q7 (fun _ => hst.1) A _ _ _ _ _ g _ w _ h1 ⟨by rw [f2, q9], f1, hi, hG, ⟨[], rfl, List.nodup_nil, fun _ h => by cases h⟩⟩ fun A1 g1 a1 w1 r1 n1 => ?_
  have hE1 : g1.E k = some (.blk b) := n1.kp.le.blk _ _ hE
  obtain ⟨b1, rr, s1, s2, s3, s4, s5, s6, s7, s8⟩ := r1.inv.H k _ hk1
  have hb : b1 = b := by have := s1.symm.trans hE1; simpa using this
  subst hb
  have hA1 : A1 b1 := r1.inv.own k _ b1 hk1 s1 (by rw [e1]; exact hro)
  have hready : rr.state = .ready := by
    rcases s8 with ⟨_, e, _⟩ | ⟨e, _⟩ | ⟨e, _⟩
    · exact e
    · cases e
    · cases e
  have hlt : b1 < w1.heap.size := lt_of_heap s2
  obtain ⟨i2, k2⟩ := r1.inv.turn hk1 hE1 s2 hA1 { rr with state := .busy } (.loop imm1 ps1 x1 c1 fr1' 1 .normal) (fun b' hb' => by
    have hb' : g1.E k = some (.blk b') := hb'
    rw [hE1] at hb'; simpa using hb'.symm) ⟨b1, _, hE1, World.putObj_heap_same hlt, s3, s4, s5, s6, s7, .inr (.inl ⟨rfl, rfl⟩)⟩
  refine ⟨_, run_beginRound s2 hready, ?_⟩
  refine exec_sound (ro := some b1) (sb := true) hX hm (fun _ => rfl) n c q8 (fun _ => hst.2) A1 _ _ _ _ _ g1 _ _ _ h3 ⟨r1.mode, r1.fr, i2, r1.G, r1.marks.keep k2⟩ fun A2 g2 a3 w3 r3 n3 => ?_
  have nn : Nx A g { tmps := (ps.zip xs).foldl (fun t (p, v) => t.setIfInBounds p v) r.tmps, defers := [] } w A2 g2 a3 w3 := n1.trans (Nx.trans ⟨fun _ h => h, k2, fun _ h => .inl h, fun _ h k => absurd h k⟩ n3)
  have hE3 : g2.E k = some (.blk b1) := nn.kp.le.blk _ _ hE
  have fin : ∀ (s : Nat) (e : Ex) (jump : Option Code), setLoop k 1 s e st3 = .ok st' → (∀ q : Loop, LoopSt s e { q with state := if jump.isNone then .ready else .done, pending := jump }) → v = .bool jump.isNone →
      ∃ y w', (Instr.endRound b1 jump).run P w3 = .ok y w' ∧ ∃ x, Ending.returned y = .returned x ∧ Post X.T A g st' w v x w' := fun s e jump hset hls hv => by
    obtain ⟨imm3, ps3, x3, c3, fr3, p3, hk3, rfl⟩ := setLoop_ok hset
    obtain ⟨b3, r4, t1, t2, t3, t4, t5, t6, t7, t8⟩ := r3.inv.H k _ hk3
    have hb : b3 = b1 := by have := t1.symm.trans hE3; simpa using this
    subst hb
    have hA2 : A2 b3 := r3.inv.own k _ b3 hk3 t1 (by rw [e3]; show st1.ro ≤ k; rw [e1]; exact hro)
    obtain ⟨i4, k4⟩ := r3.inv.turn hk3 hE3 t2 hA2 { r4 with state := if jump.isNone then .ready else .done, pending := jump } (.loop imm3 ps3 x3 c3 fr3 s e) (fun b' hb' => by
      have hb' : g2.E k = some (.blk b') := hb'
      rw [hE3] at hb'; simpa using hb'.symm) ⟨b3, _, hE3, World.putObj_heap_same (lt_of_heap t2), t3, t4, t5, t6, t7, hls r4⟩
    refine ⟨_, _, run_endRound jump t2, _, rfl, g2, by rw [hv]; simp only [R], ?_, nn.kp.trans (k4.sub nn.sub)⟩
    exact ⟨i4.F, i4.M, i4.E, i4.H, i4.D, fun id o b q1 q2 q3 => nn.sub b (i4.own id o b q1 q2 q3), fun b hb => hi.up b (Nat.le_trans nn.kp.size (by simpa using hb)), fun c => ⟨fun b o v ha hv => (Classical.em (A2 b)).elim (fun h2 => (i4.C c).1 b o v h2 hv) (fun h2 => by rw [nn.out b ha h2 o] at hv; cases hv), (i4.C c).2⟩⟩
  cases ex with
  | normal =>
    simp only [bind_ok, pure_ok, Prod.mk.injEq] at h4
    obtain ⟨st4, h4, rfl, rfl⟩ := h4
    exact fin 0 .normal none h4 (fun _ => .inl ⟨rfl, rfl, rfl, rfl⟩) rfl
  | ret =>
    simp only [bind_ok, pure_ok, Prod.mk.injEq] at h4
    obtain ⟨st4, h4, rfl, rfl⟩ := h4
    exact fin 2 .ret (some .ret) h4 (fun _ => .inr (.inr ⟨rfl, rfl, .inl ⟨rfl, rfl⟩⟩)) rfl
  | exit i =>
    simp only [bind_ok, pure_ok, Prod.mk.injEq] at h4
    obtain ⟨st4, h4, rfl, rfl⟩ := h4
    exact fin 2 (.exit i) (some (.exit i)) h4 (fun _ => .inr (.inr ⟨rfl, rfl, .inr ⟨i, rfl, rfl⟩⟩)) rfl
def BareOk (P : Program) (T : TT) (G : Nat → Option (List AV)) (f : FuncId) (args : List AV) (v : AV) : Prop :=
  ∀ A g st w xs, GR g G → bares args = true → RL g args xs → Inv T A g st w → CallWp P f xs.toArray w (Post T A g st w v)
theorem findMemo_mem {args : List AV} {v : AV} : ∀ {l : List (List AV × AV)}, findMemo args l = some v → (args, v) ∈ l
  | [], h => by cases h
  | (a, u) :: l, h => by
    simp only [findMemo] at h
    split at h
    · rename_i e
      cases h
      rw [sameAll_eq (sameAV_eq 1000) e]
      exact List.mem_cons_self
    · exact List.mem_cons_of_mem _ (findMemo_mem h)
structure EnvOk (P : Program) (E : Env) : Prop where
  T : TOk P E.T
  F : ∀ f fn, E.F f = some fn → P.funcs[f]? = some fn ∧ (∀ args w, (callFunc f args).run P w = .ok (.enter f args) w) ∧ ∀ c, fn.body = some c → codeOk c = true
  prim : PrimOk P E.T E.G E.prim
  mixed : P.follows .mixedOrders = true
  memo : ∀ f e, e ∈ E.memo f → BareOk P E.T E.G f e.1 e.2
  rule : ∀ f r args v, E.rule f = some r → r args = some v → BareOk P E.T E.G f args v := by intro _ _ _ _ h; cases h
  wrule : ∀ f r args st v s, E.wrule f = some r → r args st = .ok (v, s) → s.ro = st.ro ∧ ∀ A g w xs, GR g E.G → RL g args xs → Inv E.T A g st w →
    (callFunc f xs.toArray).run P w = .ok (.enter f xs.toArray) w ∧ Calls P f xs.toArray w fun e w' => ∃ x, e = .returned x ∧ Post E.T A g s w v x w' := by intro _ _ _ _ _ _ h; cases h
theorem known_ok {P : Program} {E : Env} (hE : EnvOk P E) {f : FuncId} {args : List AV} {v : AV} (h : E.known f args = some v) : BareOk P E.T E.G f args v := by
  unfold Env.known at h
  split at h
  · rename_i r hr
    exact hE.rule f r args v hr h
  · exact hE.memo f _ (findMemo_mem h)
theorem St.get_empty {i : Nat} {o : Obj} : St.empty.get i ≠ .ok o := by
  intro h
  have := (St.get_ok.1 h).1
  simp [St.empty] at this
theorem caller_ok {P : Program} {E : Env} (hE : EnvOk P E) : ∀ n, CallerOk P E.T E.G (caller E n) ∧ RoOk (caller E n)
  | 0 => ⟨⟨fun _ _ _ h => by simp [caller] at h, fun _ _ _ _ _ h => by simp [caller] at h, fun _ _ _ _ h => by simp [caller] at h, fun _ _ _ _ _ h => by simp [caller] at h⟩, ⟨fun _ _ _ _ _ h => by simp [caller] at h, fun _ _ _ _ _ h => by simp [caller] at h⟩⟩
  | n + 1 => by
    obtain ⟨ih, iro⟩ := caller_ok hE n
    have hX : ∀ f, Good P ⟨E.T, E.prim, E.imm f, E.G, caller E n⟩ := fun f => ⟨hE.T, ih, hE.prim⟩
    refine ⟨⟨?_, ?_, ?_, ?_⟩, ⟨?_, ?_⟩⟩
    · intro f args v h A g st w xs hG hb hr hi
      simp only [caller] at h
      split at h
      · rename_i u hu
        cases h
        exact known_ok hE hu A g st w xs hG hb hr hi
      split at h
      · cases h
      · rename_i fn hfn
        obtain ⟨f1, f2, f3⟩ := hE.F f fn hfn
        simp only [bind_ok] at h
        obtain ⟨⟨v0, s⟩, h1, v1, h2, h3⟩ := h
        split at h3
        · rename_i hbare
          simp only [pure_ok] at h3
          subst h3
          have hle : LeF g ⟨g.F, g.M, fun _ => none, g.C⟩ := ⟨fun _ _ _ x => x, fun _ _ x => x⟩
          have hinv : Inv E.T (fun b => w.heap.size ≤ b) ⟨g.F, g.M, fun _ => none, g.C⟩ St.empty w :=
            ⟨hi.F, hi.M, fun _ _ => rfl, fun _ _ ho => (St.get_empty ho).elim, fun _ _ _ _ _ ho => (St.get_empty ho).elim, fun _ _ _ ho => (St.get_empty ho).elim, fun _ hb => hb, fun _ => ⟨fun b o v ha hv => absurd hv (by rw [hi.F_new ha o]; exact fun e => by cases e), fun _ _ _ ho => (St.get_empty ho).elim⟩⟩
          refine .inr ⟨f2 _ _, (body_sound (hX f) hE.mixed f1 f3 h1 (RL_bare hle _ _ hb hr) (fun k cs hk => ⟨(hG k cs hk).1, RAt_bare hle _ _ _ (hG k cs hk).1 (hG k cs hk).2.1, (hG k cs hk).2.2⟩) hinv).mono ?_⟩
          rintro e w' ⟨x, rfl, g', r1, r2, r3⟩
          refine ⟨x, rfl, quiet_post (gb := ⟨g.F, g.M, fun _ => none, g.C⟩) hi rfl rfl Iff.rfl (fun _ => Iff.rfl) r2 r3 (base := 0) ?_ r1 h2 hbare⟩
          rw [body_ro iro h1]; exact Nat.le_refl _
        · cases h3
    · intro f args st v st' h A g w xs hG hr hi
      simp only [caller] at h
      split at h
      · split at h
        · rename_i r hw
          exact (hE.wrule f r args st v st' hw h).2 A g w xs hG hr hi
        · cases h
      · rename_i fn hfn
        obtain ⟨f1, f2, f3⟩ := hE.F f fn hfn
        simp only [bind_ok, pure_ok] at h
        obtain ⟨⟨v0, s⟩, h1, h2⟩ := h
        simp only [Prod.mk.injEq] at h2
        obtain ⟨rfl, rfl⟩ := h2
        exact ⟨f2 _ _, body_sound (hX f) hE.mixed f1 f3 h1 hr hG hi⟩
    · intro f args st v h A g w xs hG hr hi
      simp only [caller] at h
      split at h
      · cases h
      · rename_i fn hfn
        obtain ⟨f1, f2, f3⟩ := hE.F f fn hfn
        simp only [bind_ok] at h
        obtain ⟨⟨v0, s⟩, h1, v1, h2, h3⟩ := h
        split at h3
        · rename_i hbare
          simp only [pure_ok] at h3
          subst h3
          have hget : ∀ i, (⟨st.h, st.h, st.objs⟩ : St).get i = st.get i := fun _ => rfl
          have hinv : Inv E.T (fun b => w.heap.size ≤ b) g ⟨st.h, st.h, st.objs⟩ w :=
            ⟨hi.F, hi.M, hi.E, hi.H, hi.D, fun id o b ho _ hro => by
              have := (St.get_ok.1 ho).1
              have hro' : st.h ≤ id := hro
              have : id < st.h := this
              omega, fun _ hb => hb, fun c => ⟨fun b o v ha hv => absurd hv (by rw [hi.F_new ha o]; exact fun e => by cases e), (hi.C c).2⟩⟩
          refine .inr ⟨f2 _ _, (body_sound (hX f) hE.mixed f1 f3 h1 hr hG hinv).mono ?_⟩
          rintro e w' ⟨x, rfl, g', r1, r2, r3⟩
          refine ⟨x, rfl, quiet_post hi rfl rfl Iff.rfl (fun _ => Iff.rfl) r2 r3 (base := st.h) ?_ r1 h2 hbare⟩
          rw [body_ro iro h1]; exact Nat.le_refl _
        · cases h3
    · intro k args st v st' h A g w xs l hG hr hi hl
      simp only [caller, bind_ok] at h
      obtain ⟨o, h1, h2⟩ := h
      split at h2
      · rename_i imm ps x c fr s p
        split at h2
        · rename_i hc
          simp only [Bool.and_eq_true] at hc
          obtain ⟨⟨c1, c2⟩, c3, c4, c5⟩ := hc
          have c1 := Nat.eq_of_beq_eq_true c1
          subst c1
          exact roundE_sound (X := ⟨E.T, E.prim, imm, E.G, caller E n⟩) ⟨hE.T, ih, hE.prim⟩ iro hE.mixed h2 ⟨c4, c5⟩ (Nat.eq_of_beq_eq_true c3) h1 (Nat.le_of_ble_eq_true c2) hG hr hi hl
        · cases h2
      · cases h2
    · intro f args st v s h
      simp only [caller] at h
      split at h
      · split at h
        · rename_i r hw
          exact (hE.wrule f r args st v s hw h).1
        · cases h
      · simp only [bind_ok, pure_ok] at h
        obtain ⟨⟨v0, s0⟩, h1, h2⟩ := h
        simp only [Prod.mk.injEq] at h2
        obtain ⟨rfl, rfl⟩ := h2
        exact body_ro iro h1
    · intro k args st v s h
      simp only [caller, bind_ok] at h
      obtain ⟨o, h1, h2⟩ := h
      split at h2
      · split at h2
        · exact roundE_ro (X := ⟨E.T, E.prim, _, E.G, caller E n⟩) iro h2
        · cases h2
      · cases h2
namespace Tr
variable {α : Type}
def of : Nat → (Nat → Option α) → Tr α
  | 0, _ => .leaf
  | d + 1, f => .node (f 0) (of d fun k => f (2 * k + 1)) (of d fun k => f (2 * k + 2))
theorem get_node {v : Option α} {l r : Tr α} (n : Nat) : (Tr.node v l r).get n = if n = 0 then v else if n % 2 = 1 then l.get (n / 2) else r.get (n / 2 - 1) := by
  rw [get]
  cases h0 : n.beq 0 with
  | true => rw [if_pos (Nat.eq_of_beq_eq_true h0)]
  | false =>
    have : n ≠ 0 := fun e => by subst e; cases h0
    rw [if_neg this]
    cases h1 : (n % 2).beq 1 with
    | true => rw [if_pos (Nat.eq_of_beq_eq_true h1)]
    | false => rw [if_neg (fun e => by rw [e] at h1; cases h1)]
theorem get_of : ∀ (d : Nat) (f : Nat → Option α) (n : Nat) (x : α), (of d f).get n = some x → f n = some x
  | 0, _, n, x, h => by rw [of, get_leaf] at h; cases h
  | d + 1, f, n, x, h => by
    rw [of, get_node] at h
    split at h
    · rename_i e; subst e; exact h
    · split at h
      · have := get_of d _ _ _ h
        rwa [show 2 * (n / 2) + 1 = n by omega] at this
      · have := get_of d _ _ _ h
        rwa [show 2 * (n / 2 - 1) + 2 = n by omega] at this
def Every (p : Nat → α → Prop) : Tr α → Prop
  | .leaf => True
  | .node v l r => (∀ x, v = some x → p 0 x) ∧ Every (fun k => p (2 * k + 1)) l ∧ Every (fun k => p (2 * k + 2)) r
theorem every_get : ∀ (t : Tr α) (p : Nat → α → Prop), Every p t → ∀ n x, t.get n = some x → p n x
  | .leaf, p, _, n, x, h => by rw [get_leaf] at h; cases h
  | .node v l r, p, hp, n, x, h => by
    rw [get_node] at h
    obtain ⟨h1, h2, h3⟩ := hp
    split at h
    · rename_i e; subst e; exact h1 x h
    · split at h
      · have := every_get l _ h2 _ _ h
        rwa [show 2 * (n / 2) + 1 = n by omega] at this
      · have := every_get r _ h3 _ _ h
        rwa [show 2 * (n / 2 - 1) + 2 = n by omega] at this
end Tr
def uOf : TypeDesc → U
  | .bool => .bool | .int k => .int k | .string => .str | .float k => .flt k
  | .pointer e => .ptr e | .slice e => .slice e | .array n e => .arr n e | .map k e => .map k e
  | .struct fs => .struct (fs.toList.map fun f => (f.offset, f.type))
  | .func .. => .func | .interface ms => .iface ms.isEmpty | .unsafePointer => .uptr
  | _ => .other
theorem uOf_ok : ∀ d, UOk d (uOf d) := by
  intro d
  cases d <;> simp [uOf, UOk]
def isAgg : TypeDesc → Bool
  | .struct _ | .array .. => true
  | _ => false
def ones' (l : List Value) : Bool := l.all fun v => v.oneCell'
def zeroOf (z : Value) (agg : Bool) : Option (List AV) :=
  match agg with
  | true => match z with
    | .agg cs => match ones' cs.toList with
      | true => match ofConst.ofAll cs.toList with
        | .ok l => some l
        | .error _ => none
      | false => none
    | _ => none
  | false => match z.oneCell' with
    | true => match ofConst z with
      | .ok v => some [v]
      | .error _ => none
    | false => none
theorem zeroOf_ok {z : Value} {agg : Bool} {l : List AV} (h : zeroOf z agg = some l) :
    (agg = false → z.oneCell' = true) ∧ (∀ v ∈ z.cells, v.oneCell' = true) ∧ (agg = true → ∃ cs, z = .agg cs) ∧ ∀ g, RL g l z.cells.toList := by
  unfold zeroOf at h
  split at h
  · split at h
    · rename_i cs
      split at h
      · rename_i h1
        split at h
        · rename_i l' h2
          simp only [Option.some.injEq] at h
          subst h
          refine ⟨(fun e => by cases e), fun v hv => ?_, fun _ => ⟨cs, rfl⟩, fun g => ofAll_sound g _ _ h2⟩
          have : v ∈ cs := hv
          exact List.all_eq_true.1 h1 v (by simpa using this)
        · cases h
      · cases h
    · cases h
  · split at h
    · rename_i h1
      split at h
      · rename_i v h2
        simp only [Option.some.injEq] at h
        subst h
        have hc : z.cells = #[z] := by cases z <;> first | rfl | simp [Value.oneCell'] at h1
        refine ⟨fun _ => h1, fun u hu => ?_, (fun e => by simp at e), fun g => ?_⟩
        · rw [hc] at hu
          simp only [List.mem_toArray, List.mem_cons, List.not_mem_nil, or_false] at hu
          rw [hu]; exact h1
        · rw [hc]; exact RL_cons (ofConst_sound g z v h2) RL_nil
      · cases h
    · cases h
def cmpOf (P : Program) (t : TypeId) : TypeDesc → Bool
  | .struct fs => !P.eqGuardType P.depth t && !P.stoodInHeld t && fs.toList.all (fun f => f.name != "_")
  | _ => false
def tiOf (P : Program) (t : TypeId) : Option TI :=
  match P.underlying t with
  | none => none
  | some d => match P.info? t with
    | none => none
    | some f => match f.zero with
      | none => none
      | some z => match zeroOf z (isAgg d) with
        | none => none
        | some l => match z.cells.size.beq f.size with
          | false => none
          | true => some ⟨uOf d, f.size, f.bytes, l, isAgg d, cmpOf P t d⟩
theorem tiOf_ok {P : Program} {t : TypeId} {i : TI} (h : tiOf P t = some i) : TIOk P t i := by
  unfold tiOf at h
  split at h
  · cases h
  rename_i d hd
  split at h
  · cases h
  rename_i f hf
  split at h
  · cases h
  rename_i z hz
  split at h
  · cases h
  rename_i l hl
  split at h
  · cases h
  rename_i hs
  simp only [Option.some.injEq] at h
  subst h
  obtain ⟨z1, z2, z3, z4⟩ := zeroOf_ok hl
  refine ⟨⟨d, hd, uOf_ok d, ?_⟩, fun hc => ?_, ⟨f, hf, rfl, rfl, z, hz, Nat.eq_of_beq_eq_true hs, z1, z2, z3, z4⟩⟩
  · cases d <;> rfl
  · dsimp only at hc
    unfold cmpOf at hc
    split at hc
    · rename_i fs
      simp only [Bool.and_eq_true, Bool.not_eq_true', List.all_eq_true, bne_iff_ne, ne_eq] at hc
      refine ⟨hc.1.1, hc.1.2, fun fields he fl hfl => ?_⟩
      have e := hd.symm.trans he
      simp only [Option.some.injEq, TypeDesc.struct.injEq] at e
      subst e
      exact hc.2 fl hfl
    · cases hc
theorem tt_ok {P : Program} {T : TT} {d : Nat} (h : T = Tr.of d (tiOf P)) : TOk P T := fun _ _ ht => tiOf_ok (Tr.get_of d _ _ _ (h ▸ ht))
def FnOk (P : Program) (f : FuncId) (fn : Func) : Prop := P.funcs[f]? = some fn ∧ (∀ args w, (callFunc f args).run P w = .ok (.enter f args) w) ∧ ∀ c, fn.body = some c → codeOk c = true
theorem Tr.every_leaf {α : Type} {p : Nat → α → Prop} : Tr.Every p .leaf := trivial
theorem Tr.every_node {α : Type} {p : Nat → α → Prop} {v : Option α} {l r : Tr α} (h1 : ∀ x, v = some x → p 0 x) (h2 : Tr.Every (fun k => p (2 * k + 1)) l) (h3 : Tr.Every (fun k => p (2 * k + 2)) r) : Tr.Every p (.node v l r) := ⟨h1, h2, h3⟩
end Go.VM
namespace Go.VM
def delR (e : TypeId) (z : Nat) : List AV → St → Res (AV × St)
  | [.gs k z' n, .int .i64 (.ofNat i), .int .i64 (.ofNat j)], st => do
    match ← st.get k with
    | .row m e' z2 cs => match (n.beq m && (Nat.beq e' e && (z2.beq z && z'.beq z))) && ((i.blt j && j.ble n) && st.ro.ble k) with
      | true => pure (.gs st.h z (n - (j - i)), ((st.put k .dead).new (.row (n - (j - i)) e z (cs.take (i * z) ++ cs.drop (j * z)))).2)
      | false => .error "delete: what?"
    | _ => .error "delete: of what?"
  | _, _ => .error "delete"
section
variable {P : Program} {T : TT}
theorem delR_ok {e : TypeId} {z : Nat} {ti : TI} (hi : T.get e = some ti) (hz : ti.size = z) {f : FuncId} (enter : ∀ args w, (callFunc f args).run P w = .ok (.enter f args) w)
    (hDel : ∀ (b cap n i j : Nat) (cur : Array Value) (w : World), w.heap[b]? = some (.cells cur e (0, 0)) → cur.size = cap * z → n ≤ cap → i < j → j ≤ n → (∀ v ∈ cur.toList.take (n * z), v.oneCell' = true) →
      Calls P f #[.slice (some ⟨b, 0, none⟩) n cap, .int .i64 (i : Int), .int .i64 (j : Int)] w fun x w' => x = .returned (.slice (some ⟨b, 0, none⟩) (n - (j - i)) cap) ∧ ∃ rest : List Value, (i * z + (n * z - j * z)) + rest.length = cap * z ∧ w' = w.drew.setRow b (cur.toList.take (i * z) ++ (cur.toList.take (n * z)).drop (j * z) ++ rest).toArray)
    {args : List AV} {st : St} {v : AV} {s : St} (h : delR e z args st = .ok (v, s)) : s.ro = st.ro ∧ ∀ A g w xs, RL g args xs → Inv T A g st w →
      (callFunc f xs.toArray).run P w = .ok (.enter f xs.toArray) w ∧ Calls P f xs.toArray w fun e w' => ∃ x, e = .returned x ∧ Post T A g s w v x w' := by
  unfold delR at h
  split at h
  · rename_i k z' n i j
    simp only [bind_ok] at h
    obtain ⟨o, ho, h⟩ := h
    split at h
    · rename_i m e' z2 cs
      split at h
      · rename_i hc
        simp only [pure_ok, Prod.mk.injEq] at h
        obtain ⟨rfl, rfl⟩ := h
        simp only [Bool.and_eq_true] at hc
        obtain ⟨⟨c1, c2, c3, c4⟩, ⟨c5, c6⟩, c7⟩ := hc
        have c1 := Nat.eq_of_beq_eq_true c1
        have c2 : e' = e := Nat.eq_of_beq_eq_true c2
        have c3 := Nat.eq_of_beq_eq_true c3
        have c4 := Nat.eq_of_beq_eq_true c4
        have c5 := blt_true.1 c5
        have c6 := Nat.le_of_ble_eq_true c6
        have c7 := Nat.le_of_ble_eq_true c7
        subst c1; subst c2; subst c3; subst c4
        refine ⟨rfl, fun A g w xs hr hv => ?_⟩
        simp only [RL, R] at hr
        obtain ⟨x1, l1, rfl, ⟨loc, b, cap, hE, hl, rfl, hcap, h1z⟩, x2, l2, rfl, rfl, x3, l3, rfl, rfl, rfl⟩ := hr
        obtain ⟨loc2, b2, cap2, i2, pre, rest, q1, q2, q3, q4, q5, q6, q7, q8, q9, q10, q11, q12, q13⟩ := hv.H k _ ho
        have e1 := q1.symm.trans hE
        simp only [Option.some.injEq, Ent.tok.injEq] at e1
        subst e1
        have e2 := q2.symm.trans hl
        simp only [Option.some.injEq, Prod.mk.injEq] at e2
        obtain ⟨rfl, rfl⟩ := e2
        have hat0 : At g k (.row n e' z' cs) b2 := ⟨loc2, cap2, q1, q2⟩
        have hA : A b2 := hv.own k _ b2 ho hat0 c7
        have hpl : pre.toList.length = n * z' := by have := RL_len q11; rw [q10]; omega
        have htk : (pre ++ rest).toList.take (n * z') = pre.toList := by rw [Array.toList_append, List.take_left' hpl]
        refine ⟨enter _ _, (hDel b2 cap2 n i j (pre ++ rest) w q7 (by rw [q8, q10]) q6 c5 c6 (by rw [htk]; exact q12)).mono ?_⟩
        rintro e w' ⟨rfl, rest', hrl, rfl⟩
        refine ⟨_, rfl, ?_⟩
        have hjz : j * z' ≤ n * z' := Nat.mul_le_mul_right _ c6
        have hiz : i * z' ≤ n * z' := Nat.mul_le_mul_right _ (by omega)
        have hti : (pre ++ rest).toList.take (i * z') = pre.toList.take (i * z') := by rw [Array.toList_append, List.take_append_of_le_length (by omega)]
        rw [htk, hti]
        have hpre : RL g (cs.take (i * z') ++ cs.drop (j * z')) (pre.toList.take (i * z') ++ pre.toList.drop (j * z')) := RL_append (RL_take _ q11) (RL_drop _ q11)
        have hlen : (cs.take (i * z') ++ cs.drop (j * z')).length = (n - (j - i)) * z' := by
          rw [List.length_append, List.length_take, List.length_drop, q13, ← q10, Nat.min_eq_left hiz]
          have : (n - (j - i)) * z' + j * z' = n * z' + i * z' := by rw [← Nat.add_mul, ← Nat.add_mul]; congr 1; omega
          omega
        have hd := hv.drew
        have hMn : g.M b2 = none := by
          cases hm : g.M b2 with
          | none => rfl
          | some ee =>
            have := hv.M b2 ee.1 ee.2 hm
            rw [q7] at this; cases this
        have q7' : w.drew.heap[b2]? = some (.cells (pre ++ rest) e' (0, 0)) := q7
        generalize hrow : (pre.toList.take (i * z') ++ pre.toList.drop (j * z') ++ rest').toArray = row
        have hw2 : (w.drew.setRow b2 row).heap[b2]? = some (.cells row e' (0, 0)) := setRow_heap _ _ _ _ _ _ q7'
        have i1 : Inv T A g (st.put k .dead) (w.drew.setRow b2 row) := hd.write ho hat0 _ (setRow_size _ _ _) (fun _ hb => setRow_ne _ _ _ hb)
          (fun j u hu => by rw [q9 j] at hu; cases hu) hMn (fun b' hb' => hb'.elim) trivial
        have kp1 : Kp A g w g (w.drew.setRow b2 row) := (Kp.drew A g w).trans (Kp.write hA (setRow_size _ _ _) (fun _ hb => setRow_ne _ _ _ hb))
        have hh : (st.put k .dead).h = st.h := rfl
        have hE0 : g.E st.h = none := hv.E _ (Nat.le_refl _)
        refine ⟨g.setE st.h (.tok fun u => if u = n - (j - i) then some (b2, cap2) else none), ?_, ?_, kp1.trans (Kp.setE hE0)⟩
        · simp only [R]
          exact ⟨_, b2, cap2, Gh.setE_same _ _ _, by simp, rfl, by omega, h1z⟩
        · refine i1.name (hU := fun c => ((hd.C c).2 k _ b2 ho hat0).setRow) (.row (n - (j - i)) e' z' (cs.take (i * z') ++ cs.drop (j * z'))) _ b2 (fun id o' hid ha => ?_) hA ?_ ?_
          · by_cases hk : k = id
            · subst hk
              rw [St.get_put_same (St.get_ok.1 ho).1] at hid
              cases hid
              exact ha.elim
            · rw [St.get_put_ne hk] at hid
              exact hk (hv.D k id _ o' b2 ho hid hat0 ha)
          · rintro b' ⟨l, c, r1, r2⟩
            rw [hh] at r1
            rw [Gh.setE_same] at r1
            simp only [Option.some.injEq, Ent.tok.injEq] at r1
            subst r1
            simp only [if_true] at r2
            simp only [Option.some.injEq, Prod.mk.injEq] at r2
            exact r2.1.symm
          · refine ⟨_, b2, cap2, i2, (pre.toList.take (i * z') ++ pre.toList.drop (j * z')).toArray, rest'.toArray, Gh.setE_same _ _ _, by simp, fun m hm => ?_, q4, q5, by omega, ?_, ?_, q9, q10, ?_, ?_, by rw [← q10]; exact hlen⟩
            · rw [if_neg (by omega)]
            · rw [hw2, ← hrow]; simp
            · rw [← q10, ← hrl]
              simp only [Array.size_append, List.size_toArray, List.length_append, List.length_take, List.length_drop, hpl]
              omega
            · rw [List.toList_toArray]
              exact RL_mono (Le.setE hE0) _ _ hpre
            · rw [List.toList_toArray]
              intro u hu
              rcases List.mem_append.1 hu with hu | hu
              · exact q12 u (List.mem_of_mem_take hu)
              · exact q12 u (List.mem_of_mem_drop hu)
      · cases h
    · cases h
  · cases h
end
structure CLe (C C' : Caller) : Prop where
  full : C'.full = C.full
  isLook : C'.isLook = C.isLook
  bare : ∀ f args v, C.bare f args = .ok v → C'.bare f args = .ok v
  wide : ∀ f args st r, C.wide f args st = .ok r → C'.wide f args st = .ok r
  look : ∀ f args st v, C.look f args st = .ok v → C'.look f args st = .ok v
  round : ∀ k args st r, C.round k args st = .ok r → C'.round k args st = .ok r
theorem runPlan_mono {C C' : Caller} (h : CLe C C') {st : St} {p : Plan} {r : AV × Fx} (hr : runPlan C st p = .ok r) : runPlan C' st p = .ok r := by
  cases p with
  | val v => exact hr
  | obj id f => exact hr
  | both id k f => exact hr
  | new o f => exact hr
  | yield k args =>
    simp only [runPlan, bind_ok, pure_ok] at hr ⊢
    obtain ⟨v, h1, rfl⟩ := hr
    exact ⟨v, h.round _ _ _ _ h1, rfl⟩
  | call f args =>
    simp only [runPlan] at hr ⊢
    rw [h.full, h.isLook]
    cases e : (bares (args.map strip) && !C.full f) with
    | true =>
      rw [e] at hr
      simp only [bind_ok, pure_ok] at hr
      obtain ⟨v, h1, rfl⟩ := hr
      simp only [h.bare _ _ _ h1]; rfl
    | false =>
      rw [e] at hr
      dsimp only at hr ⊢
      cases e' : C.isLook f with
      | true =>
        rw [e'] at hr
        simp only [bind_ok, pure_ok] at hr
        obtain ⟨v, h1, rfl⟩ := hr
        simp only [h.look _ _ _ _ h1]; rfl
      | false =>
        rw [e'] at hr
        simp only [bind_ok, pure_ok] at hr
        obtain ⟨v, h1, rfl⟩ := hr
        simp only [h.wide _ _ _ _ h1]; rfl
def Cx.with (X : Cx) (C : Caller) : Cx := ⟨X.T, X.prim, X.imm, X.G, C⟩
theorem oper_mono {X : Cx} {C : Caller} (h : CLe X.C C) {all : List Oper} {fr : Fr} {st : St} {o : Oper} {r : AV × Fx} (hr : oper X all fr st o = .ok r) : oper (X.with C) all fr st o = .ok r := by
  unfold oper at hr ⊢
  split at hr
  · obtain ⟨p, h1, h2⟩ := bind_ok.1 hr
    exact bind_ok.2 ⟨p, h1, runPlan_mono h h2⟩
  · exact hr
theorem opsFrom_mono {X : Cx} {C : Caller} (h : CLe X.C C) {all : List Oper} {draw : Bool} : ∀ {l : List Oper} {j : Nat} {seen : List (Nat × Fx)} {fr : Fr} {st : St} {r : Fr × St}, opsFrom X all draw j seen l fr st = .ok r → opsFrom (X.with C) all draw j seen l fr st = .ok r
  | [], _, _, _, _, _, hr => hr
  | o :: l, j, seen, fr, st, r, hr => by
    simp only [opsFrom, bind_ok] at hr ⊢
    obtain ⟨⟨v, x⟩, h1, h2⟩ := hr
    refine ⟨(v, x), oper_mono h h1, ?_⟩
    dsimp only at h2 ⊢
    split at h2
    · exact opsFrom_mono h h2
    · split at h2
      · exact opsFrom_mono h h2
      · cases h2
theorem operE_mono {X : Cx} {C : Caller} (h : CLe X.C C) {e : Nat → Option Nat} {all : List Oper} {fr : Fr} {st : St} {o : Oper} {r : AV × Fx} (hr : operE X e all fr st o = .ok r) : operE (X.with C) e all fr st o = .ok r := by
  unfold operE at hr ⊢
  split at hr
  · split at hr
    · exact hr
    · obtain ⟨p, h1, h2⟩ := bind_ok.1 hr
      exact bind_ok.2 ⟨p, h1, runPlan_mono h h2⟩
  · exact hr
theorem opsFromE_mono {X : Cx} {C : Caller} (h : CLe X.C C) {e : Nat → Option Nat} {all : List Oper} : ∀ {l : List Oper} {j : Nat} {seen : List (Nat × Fx)} {fr : Fr} {st : St} {r : Fr × St}, opsFromE X e all j seen l fr st = .ok r → opsFromE (X.with C) e all j seen l fr st = .ok r
  | [], _, _, _, _, _, hr => hr
  | o :: l, j, seen, fr, st, r, hr => by
    simp only [opsFromE, bind_ok] at hr ⊢
    obtain ⟨⟨v, x⟩, h1, h2⟩ := hr
    refine ⟨(v, x), operE_mono h h1, ?_⟩
    dsimp only at h2 ⊢
    split at h2
    · exact opsFromE_mono h h2
    · split at h2
      · exact opsFromE_mono h h2
      · cases h2
theorem iter_mono {b b' : Fr → St → Res (Ex × Fr × St)} (hb : ∀ fr st r, b fr st = .ok r → b' fr st = .ok r) : ∀ {n n' : Nat} {fr : Fr} {st : St} {r : Ex × Fr × St}, n ≤ n' → iter b n fr st = .ok r → iter b' n' fr st = .ok r
  | 0, _, _, _, _, _, h => by simp [iter] at h
  | n + 1, 0, _, _, _, hn, _ => by omega
  | n + 1, n' + 1, fr, st, r, hn, h => by
    simp only [iter, bind_ok] at h ⊢
    obtain ⟨⟨ex, fr1, st1⟩, h1, h2⟩ := h
    refine ⟨_, hb _ _ _ h1, ?_⟩
    cases ex
    · exact iter_mono hb (by omega) h2
    · exact h2
    · exact h2
theorem exec_mono {X : Cx} {C : Caller} (h : CLe X.C C) {n n' : Nat} (hn : n ≤ n') : ∀ (c : Code) (fr : Fr) (st : St) (r : Ex × Fr × St), exec X n c fr st = .ok r → exec (X.with C) n' c fr st = .ok r
  | .skip, _, _, _, hr | .label _, _, _, _, hr | .exit _, _, _, _, hr | .ret, _, _, _, hr => hr
  | .goto _, _, _, _, hr | .refuse _, _, _, _, hr => by simp [exec] at hr
  | .rangeFunc x ps y c, fr, st, r, hr => by
    simp only [exec] at hr ⊢
    cases hs : fr.strict with
    | true => rw [hs] at hr; cases hr
    | false =>
      rw [hs] at hr
      dsimp only at hr ⊢
      obtain ⟨fv, h1, h2⟩ := bind_ok.1 hr
      refine bind_ok.2 ⟨fv, h1, ?_⟩
      split at h2
      · obtain ⟨q, h3, h4⟩ := bind_ok.1 h2
        exact bind_ok.2 ⟨q, h.wide _ _ _ _ h3, h4⟩
      · cases h2
  | .scope c, fr, st, r, hr => exec_mono h hn c fr st r hr
  | .region _ _ _, fr, st, r, hr => by
    simp only [exec] at hr ⊢
    split at hr
    · rename_i hd
      have hd : (_ && (X.with C).imm 4000000) = false := hd
      rw [hd]
      simp only [bind_ok] at hr ⊢
      obtain ⟨a, h1, h2⟩ := hr
      exact ⟨a, opsFrom_mono h h1, h2⟩
    · rename_i hd
      have hd : (_ && (X.with C).imm 4000000) = true := hd
      rw [hd]
      simp only [bind_ok] at hr ⊢
      obtain ⟨a, h1, h2⟩ := hr
      exact ⟨a, opsFromE_mono h h1, h2⟩
  | .seq a b, fr, st, r, hr => by
    simp only [exec, bind_ok] at hr ⊢
    obtain ⟨⟨ex, fr1, st1⟩, h1, h2⟩ := hr
    refine ⟨_, exec_mono h hn a _ _ _ h1, ?_⟩
    cases ex
    · exact exec_mono h hn b _ _ _ h2
    · exact h2
    · exact h2
  | .cond c a b, fr, st, r, hr => by
    simp only [exec, bind_ok] at hr ⊢
    obtain ⟨cv, h1, v, h2, h3⟩ := hr
    refine ⟨cv, h1, v, h2, ?_⟩
    cases v
    · exact exec_mono h hn b _ _ _ h3
    · exact exec_mono h hn a _ _ _ h3
  | .block id c, fr, st, r, hr => by
    simp only [exec, bind_ok] at hr ⊢
    obtain ⟨a, h1, h2⟩ := hr
    exact ⟨a, exec_mono h hn c _ _ _ h1, h2⟩
  | .loop c, fr, st, r, hr => by
    simp only [exec] at hr ⊢
    exact iter_mono (fun fr st r h' => exec_mono h hn c fr st r h') hn hr
theorem body_mono {X : Cx} {C : Caller} (h : CLe X.C C) {n n' : Nat} (hn : n ≤ n') {fn : Func} {args : List AV} {st : St} {r : AV × St} (hr : body X n fn args st = .ok r) : body (X.with C) n' fn args st = .ok r := by
  unfold body at hr ⊢
  split at hr
  · cases hr
  · split at hr
    · cases hr
    · obtain ⟨a, h1, h2⟩ := bind_ok.1 hr
      exact bind_ok.2 ⟨a, exec_mono h hn _ _ _ _ h1, h2⟩
theorem roundE_mono {X : Cx} {C : Caller} (h : CLe X.C C) {n n' : Nat} (hn : n ≤ n') {k : Nat} {x c : Code} {fr : Fr} {st : St} {r : AV × St} (hr : roundE X n k x c fr st = .ok r) : roundE (X.with C) n' k x c fr st = .ok r := by
  simp only [roundE, bind_ok] at hr ⊢
  obtain ⟨⟨ex, fr1, st1⟩, h1, h2⟩ := hr
  refine ⟨_, exec_mono h hn _ _ _ _ h1, ?_⟩
  cases ex
  · simp only [bind_ok] at h2 ⊢
    obtain ⟨st2, h3, q, h4, h5⟩ := h2
    exact ⟨st2, h3, q, exec_mono h hn _ _ _ _ h4, h5⟩
  · exact h2
  · exact h2
theorem caller_mono (E : Env) : ∀ {n n' : Nat}, n ≤ n' → CLe (caller E n) (caller E n')
  | 0, 0, _ => ⟨rfl, rfl, fun _ _ _ h => h, fun _ _ _ _ h => h, fun _ _ _ _ h => h, fun _ _ _ _ h => h⟩
  | 0, _ + 1, _ => ⟨rfl, rfl, fun _ _ _ h => (by simp [caller] at h), fun _ _ _ _ h => (by simp [caller] at h), fun _ _ _ _ h => (by simp [caller] at h), fun _ _ _ _ h => (by simp [caller] at h)⟩
  | n + 1, 0, h => by omega
  | n + 1, n' + 1, hn => by
    have ih := caller_mono E (show n ≤ n' by omega)
    have hb : ∀ f fn args st r, body ⟨E.T, E.prim, E.imm f, E.G, caller E n⟩ n fn args st = .ok r → body ⟨E.T, E.prim, E.imm f, E.G, caller E n'⟩ n' fn args st = .ok r := fun f fn args st r h =>
      body_mono (X := ⟨E.T, E.prim, E.imm f, E.G, caller E n⟩) ih (by omega) h
    refine ⟨rfl, rfl, fun f args v h => ?_, fun f args st r h => ?_, fun f args st v h => ?_, fun k args st r h => ?_⟩
    · simp only [caller] at h ⊢
      split at h
      · exact h
      · split at h
        · cases h
        · obtain ⟨a, h1, h2⟩ := bind_ok.1 h
          exact bind_ok.2 ⟨a, hb _ _ _ _ _ h1, h2⟩
    · simp only [caller] at h ⊢
      split at h
      · exact h
      · obtain ⟨a, h1, h2⟩ := bind_ok.1 h
        exact bind_ok.2 ⟨a, hb _ _ _ _ _ h1, h2⟩
    · simp only [caller] at h ⊢
      split at h
      · cases h
      · obtain ⟨a, h1, h2⟩ := bind_ok.1 h
        exact bind_ok.2 ⟨a, hb _ _ _ _ _ h1, h2⟩
    · simp only [caller, bind_ok] at h ⊢
      obtain ⟨o, h1, h2⟩ := h
      refine ⟨o, h1, ?_⟩
      cases o with
      | loop imm ps x c fr s p =>
        dsimp only at h2 ⊢
        split at h2
        · exact roundE_mono (X := ⟨E.T, E.prim, imm, E.G, caller E n⟩) ih (by omega) h2
        · cases h2
      | _ => cases h2
theorem ok_bind {α β : Type} (a : α) (f : α → Res β) : ((Except.ok a : Res α) >>= f) = f a := rfl
theorem pure_eq {α : Type} (a : α) : (pure a : Res α) = .ok a := rfl
theorem Fr.put_n (fr : Fr) (d : Option Nat) (v : AV) : (fr.put d v).n = fr.n := by
  cases d with
  | none => rfl
  | some d => simp only [Fr.put]; split <;> rfl
def toO {α : Type} : Res α → Option α
  | .ok a => some a
  | .error _ => none
structure Orc where
  full : FuncId → Bool
  isLook : FuncId → Bool
  bare : FuncId → List AV → Option AV
  wide : FuncId → List AV → St → Option (AV × St)
  look : FuncId → List AV → St → Option AV
  round : Nat → List AV → St → Option (AV × St)
structure Sx where
  T : TT
  prim : FuncId → Option Prim
  imm : TypeId → Bool
  G : Nat → Option (List AV)
  O : Orc
section
variable {β : Type}
def letV {α : Type} (a : α) (K : α → Option β) : Option β := K a
abbrev letSt (a : St) (K : St → Option β) : Option β := K a
def asI (k : IntKind) (v : AV) (K : Int → Option β) : Option β :=
  match v with
  | .int j n => match decide (j = k) with
    | true => K n
    | false => none
  | _ => none
def asB (v : AV) (K : Bool → Option β) : Option β :=
  match v with
  | .bool b => K b
  | _ => none
def asS (v : AV) (K : List UInt8 → Option β) : Option β :=
  match v with
  | .str s => K s
  | _ => none
def anyI (v : AV) (K : Int → Option β) : Option β :=
  match v with
  | .int _ n => K n
  | _ => none
def unA (v : AV) (K : List AV → Option β) : Option β :=
  match v with
  | .agg cs => K cs
  | _ => none
def unT (v : AV) (K : List AV → Option β) : Option β :=
  match v with
  | .tup cs => K cs
  | _ => none
def unc (l : List AV) (K : AV → List AV → Option β) : Option β :=
  match l with
  | v :: l => K v l
  | [] => none
def un0 (l : List AV) (K : Option β) : Option β :=
  match l with
  | [] => K
  | _ :: _ => none
def chk (b : Bool) (K : Option β) : Option β :=
  match b with
  | true => K
  | false => none
def ifB (b : Bool) (x y : Option β) : Option β :=
  match b with
  | true => x
  | false => y
def asOne (v : AV) (K : Option β) : Option β := chk (one v) K
def onesS : List AV → Option β → Option β
  | [], K => K
  | v :: l, K => asOne v (onesS l K)
def nthS (cs : List AV) (off : Nat) (K : AV → Option β) : Option β :=
  match cs[off]? with
  | some v => K v
  | none => none
def decC (b : Bool) (z v : AV) (K : AV → Option β) : Option β :=
  match z with
  | .int k _ => asI k v fun n => match b with
    | true => letV n fun n => K (.int k n)
    | false => K (.int k n)
  | .bool _ => asB v fun b => K (.bool b)
  | .str _ => asS v fun s => match b with
    | true => letV s fun s => K (.str s)
    | false => K (.str s)
  | _ => K v
def decL : List AV → List AV → (List AV → Option β) → Option β
  | [], cs, K => un0 cs (K [])
  | z :: zs, cs, K => unc cs fun v l => decC false z v fun v' => decL zs l fun l' => K (v' :: l')
def decT (b : Bool) (T : TT) (t : TypeId) (v : AV) (K : AV → Option β) : Option β :=
  match T.get t with
  | some i => match i.agg with
    | true => match i.zero.length.ble 24 with
      | true => unA v fun cs => decL i.zero cs fun cs' => K (.agg cs')
      | false => K v
    | false => match i.zero with
      | [z] => decC b z v K
      | _ => K v
  | none => K v
def isArith : Op → Bool
  | .binOp op _ _ _ _ => match op with
    | .eql => false
    | .neq => false
    | .lss => false
    | .leq => false
    | .gtr => false
    | .geq => false
    | _ => true
  | .unOp .. => true
  | .convert .. => true
  | .slice .. => true
  | .call c => match c.callee with
    | .builtin .min => true
    | .builtin .max => true
    | _ => false
  | _ => false
def tiS (T : TT) (t : TypeId) (K : TI → Option β) : Option β :=
  match T.get t with
  | some i => K i
  | none => none
def cellsT (agg : Bool) (v : AV) (K : List AV → Option β) : Option β :=
  match agg with
  | true => unA v K
  | false => asOne v (K [v])
def fit1 (v : AV) (K : AV → Option β) : Option β :=
  match fit v with
  | .ok v' => K v'
  | .error _ => none
def fitC : List AV → (List AV → Option β) → Option β
  | [], K => K []
  | v :: l, K => fit1 v fun v' => fitC l fun l' => K (v' :: l')
def fitT (agg : Bool) (v : AV) (K : AV → Option β) : Option β :=
  match agg with
  | true => unA v fun cs => onesS cs (fitC cs fun cs' => K (.agg cs'))
  | false => fit1 v K
def fitTs (agg : Bool) : List AV → (List AV → Option β) → Option β
  | [], K => K []
  | v :: l, K => fitT agg v fun v' => fitTs agg l fun l' => K (v' :: l')
def sizesOk (z : Nat) (l : List AV) : Bool := l.all fun v => v.cells.length.beq z
def splS (cs : List AV) (off : Nat) (new : List AV) : List AV := splice cs off new
def St.add (st : St) (o : Obj) : St := (st.new o).2
def q0 : Fx := ⟨[], .kept⟩
abbrev Kv (β : Type) := AV → St → Fx → Option β
def bindO {α : Type} (x : Option α) (K : α → Option β) : Option β :=
  match x with
  | some a => K a
  | none => none
def onSum {α : Type} (r : Sum α β) (f : α → Option β) : Option β :=
  match r with
  | .inl a => f a
  | .inr r => some r
def loadO (size : Nat) (agg : Bool) (a : AV) (st : St) : Option (AV × List Nat) :=
  match a with
  | .ip cells => match takeCells size agg cells with
    | .ok v => some (v, [])
    | .error _ => none
  | .mp id off => match st.get id with
    | .ok (.cells _ cs) => match takeCells size agg (cs.drop off) with
      | .ok v => some (v, [id])
      | .error _ => none
    | _ => none
  | .gp k n off => match st.get k with
    | .ok (.row m _ _ cs) => match n.beq m with
      | true => match takeCells size agg (cs.drop off) with
        | .ok v => some (v, [k])
        | .error _ => none
      | false => none
    | _ => none
  | _ => none
def loadS (size : Nat) (agg : Bool) (a : AV) (st : St) (K : AV → List Nat → Option β) : Option β := bindO (loadO size agg a st) fun p => K p.1 p.2
abbrev Out := AV × St × Fx
def wroteO (st : St) (id : Nat) (o : Obj) (v : AV) (rd : List Nat) : Option Out :=
  match st.ro.ble id with
  | true => some (v, st.put id o, ⟨rd, .wrote id o⟩)
  | false => none
def madeO (st : St) (o : Obj) (f : Nat → AV) : Option Out := some (f st.h, st.add o, ⟨[], .made st.h o⟩)
def callO (O : Orc) (f : FuncId) (args : List AV) (st : St) : Option Out :=
  match bares (args.map strip) && !O.full f with
  | true => match O.bare f (args.map strip) with
    | some v => some (v, st, q0)
    | none => none
  | false => match O.isLook f with
    | true => match O.look f (args.map strip) st with
      | some v => some (v, st, ⟨[], .looked⟩)
      | none => none
    | false => match O.wide f args st with
      | some p => some (p.1, p.2, ⟨[], .all st p.2⟩)
      | none => none
def yieldO (O : Orc) (k : Nat) (args : List AV) (st : St) : Option Out :=
  match O.round k args st with
  | some p => some (p.1, p.2, ⟨[], .all st p.2⟩)
  | none => none
def planO (O : Orc) (p : Res Plan) (st : St) : Option Out :=
  match p with
  | .ok (.val v) => some (v, st, q0)
  | .ok (.obj id f) => match st.get id with
    | .ok o => match f o with
      | .ok (v, none) => some (v, st, ⟨[id], .kept⟩)
      | .ok (v, some o') => wroteO st id o' v [id]
      | .error _ => none
    | .error _ => none
  | .ok (.both id k f) => match st.get id with
    | .ok o => match k o with
      | .ok none => match f o none with
        | .ok v => some (v, st, ⟨[], .looked⟩)
        | .error _ => none
      | .ok (some j) => match st.ro.ble j with
        | true => match st.get j with
          | .ok o' => match f o (some o') with
            | .ok v => some (v, st, ⟨[], .looked⟩)
            | .error _ => none
          | .error _ => none
        | false => none
      | .error _ => none
    | .error _ => none
  | .ok (.new o f) => madeO st o f
  | .ok (.call f args) => callO O f args st
  | .ok (.yield k args) => yieldO O k args st
  | .error _ => none
def outS (x : Option Out) (K : Kv β) : Option β := bindO x fun r => K r.1 r.2.1 r.2.2
def made (st : St) (o : Obj) (f : Nat → AV) (K : Kv β) : Option β := outS (madeO st o f) K
def planS (O : Orc) (p : Res Plan) (st : St) (K : Kv β) : Option β := outS (planO O p st) K
def callS (O : Orc) (f : FuncId) (args : List AV) (st : St) (K : Kv β) : Option β := outS (callO O f args st) K
def storeO (O : Orc) (size : Nat) (a v : AV) (cs : List AV) (st : St) : Option Out :=
  match a with
  | .mp id off => match cs.length.beq size with
    | true => match st.get id with
      | .ok (.cells t old) => match (off + cs.length).ble old.length with
        | true => wroteO st id (.cells t (splS old off cs)) undef [id]
        | false => none
      | _ => none
    | false => none
  | .gp k m off => planO O (gpStoreP ⟨.other, size, 0, [], false, false⟩ k m off v) st
  | _ => none
def hatchO (t : TypeId) (z : List AV) (nm : Nat) (st : St) : Option Out :=
  match st.get nm with
  | .ok .egg => wroteO st nm (.cells t z) (.mp nm 0) [nm]
  | _ => none
def hatchS (t : TypeId) (z : List AV) (nm : Nat) (st : St) (K : Kv β) : Option β := outS (hatchO t z nm st) K
def storeS (O : Orc) (size : Nat) (a v : AV) (cs : List AV) (st : St) (K : Kv β) : Option β := outS (storeO O size a v cs st) K
def fldO (off : Nat) (a : AV) : Option AV :=
  match a with
  | .ip cells => some (.ip (cells.drop off))
  | .mp id o => some (.mp id (o + off))
  | .gp k n o => some (.gp k n (o + off))
  | _ => none
def fldA (off : Nat) (a : AV) (K : AV → Option β) : Option β := bindO (fldO off a) K
def insideS (i : Int) (n : Nat) (K : Nat → Option β) : Option β :=
  match i with
  | .ofNat k => chk (k.blt n) (K k)
  | .negSucc _ => none
def uptoS (i : Int) (n : Nat) (K : Nat → Option β) : Option β :=
  match i with
  | .ofNat k => chk (k.ble n) (K k)
  | .negSucc _ => none
def nthO : List AV → Nat → Option AV
  | [], _ => none
  | v :: _, 0 => some v
  | _ :: l, n + 1 => nthO l n
def insideO (i : Int) (n : Nat) : Option Nat :=
  match i with
  | .ofNat k => match k.blt n with
    | true => some k
    | false => none
  | .negSucc _ => none
def idxO (z : Nat) (x : AV) (i : Int) (st : St) : Option (AV × List Nat) :=
  match x with
  | .sl sz es _ => match sz.beq z with
    | true => match insideO i es.length with
      | some k => match nthO es k with
        | some v => some (.ip v.cells, [])
        | none => none
      | none => none
    | false => none
  | .ms id off sz len _ => match sz.beq z with
    | true => match insideO i len with
      | some k => some (.mp id (off + k * sz), [])
      | none => none
    | false => none
  | .gs k sz n => match sz.beq z with
    | true => match insideO i n with
      | some j => match st.get k with
        | .ok (.grow m _ z' es) => match n.beq m && z'.beq sz with
          | true => match j.blt es.length with
            | true => match nthO es j with
              | some v => some (.ip v.cells, [k])
              | none => none
            | false => some (.gp k n (j * sz), [k])
          | false => none
        | .ok (.row m _ z' _) => match n.beq m && z'.beq sz with
          | true => some (.gp k n (j * sz), [k])
          | false => none
        | _ => none
      | none => none
    | false => none
  | _ => none
def idxA (z : Nat) (x : AV) (i : Int) (st : St) (K : AV → List Nat → Option β) : Option β := bindO (idxO z x i st) fun p => K p.1 p.2
def idxR (z len : Nat) (x : AV) (i : Int) (K : AV → Option β) : Option β :=
  insideS i len fun k => fldA (k * z) x K
def idxStr (s : List UInt8) (i : Int) (K : UInt8 → Option β) : Option β :=
  insideS i s.length fun k => match s[k]? with
    | some b => K b
    | none => none
def loS (lo : Option Int) (h : Nat) (K : Nat → Option β) : Option β :=
  match lo with
  | some l => uptoS l h K
  | none => K 0
def hiS (hi : Option Int) (m d : Nat) (K : Nat → Option β) : Option β :=
  match hi with
  | some h => uptoS h m K
  | none => K d
def hiO (hi : Option Int) (m d : Nat) : Option Nat :=
  match hi with
  | some h => match h with
    | .ofNat k => match k.ble m with
      | true => some k
      | false => none
    | .negSucc _ => none
  | none => some d
def sliceO (z : Nat) (x : AV) (lo hi mx : Option Int) : Option AV :=
  match x, mx with
  | .nils, mx => match hiO mx 0 0 with
    | some m => match hiO hi m 0 with
      | some h => match hiO lo h 0 with
        | some _ => some .nils
        | none => none
      | none => none
    | none => none
  | .es, mx => match hiO mx 0 0 with
    | some m => match hiO hi m 0 with
      | some h => match hiO lo h 0 with
        | some _ => some .es
        | none => none
      | none => none
    | none => none
  | .ms id off sz len cap, mx => match sz.beq z with
    | true => match hiO mx cap cap with
      | some m => match hiO hi m len with
        | some h => match hiO lo h 0 with
          | some l => match h.ble m with
            | true => some (.ms id (off + l * sz) sz (h - l) (m - l))
            | false => none
          | none => none
        | none => none
      | none => none
    | false => none
  | .sl sz es p, none => match sz.beq z with
    | true => match hiO hi es.length es.length with
      | some h => match hiO lo h 0 with
        | some l => match h.beq es.length, p with
          | true, .shut => some (.sl sz (es.drop l) .shut)
          | true, .own k => match l.beq 0 with
            | true => some (.sl sz es (.own k))
            | false => some (.sl sz (es.drop l) .wide)
          | _, _ => some (.sl sz ((es.take h).drop l) .wide)
        | none => none
      | none => none
    | false => none
  | .sl sz es _, some m => match sz.beq z with
    | true => match hiO (some m) es.length 0 with
      | some m => match hiO hi m m with
        | some h => match hiO lo h 0 with
          | some l => some (.sl sz ((es.take h).drop l) (match m.beq h with | true => .shut | false => .wide))
          | none => none
        | none => none
      | none => none
    | false => none
  | _, _ => none
def sliceS (z : Nat) (x : AV) (lo hi mx : Option Int) (K : AV → Option β) : Option β := bindO (sliceO z x lo hi mx) K
def lenO (x : AV) : Option Nat :=
  match x with
  | .nils => some 0
  | .sl _ e _ => some e.length
  | .ms _ _ _ len _ => some len
  | .gs _ _ n => some n
  | .es => some 0
  | _ => none
def lenS (x : AV) (K : Nat → Option β) : Option β := bindO (lenO x) K
def elemsS (x : AV) (K : List AV → Option β) : Option β :=
  match elemsV x with
  | some l => K l
  | none => none
def rowAnyP (i : TI) (e : TypeId) (s x : AV) : Res Plan :=
  match elemsV x with
  | some new => rowAppendP i e s new
  | none => match x with
    | .hs z c cs => rowHeldP i e s z c cs
    | .gs k z n => gsReadP i e s k z n
    | _ => .error "append: what?"
def appO (z b : Nat) (e : TypeId) (s : AV) (new : List AV) (st : St) : Option Out :=
  match new with
  | [] => match s with
    | .nils => some (.nils, st, q0)
    | .sl z es p => some (.sl z es p, st, q0)
    | .es => some (.es, st, q0)
    | _ => none
  | _ :: _ => match s with
    | .nils => match roomOk new.length ⟨.other, z, b, [], false, false⟩ with
      | true => madeO st (.tok new.length e) fun k => .sl z new (.own k)
      | false => none
    | .sl y es p => match roomOk (es.length + new.length) ⟨.other, z, b, [], false, false⟩ && y.beq z with
      | true => match p with
        | .shut => madeO st (.tok (es.length + new.length) e) fun k => .sl y (es ++ new) (.own k)
        | .own k => match st.get k with
          | .ok (.tok n e') => match n.beq es.length && e'.beq e with
            | true => wroteO st k (.tok (es.length + new.length) e) (.sl y (es ++ new) (.own k)) [k]
            | false => none
          | _ => none
        | .wide => none
      | false => none
    | .es => match roomOk new.length ⟨.other, z, b, [], false, false⟩ with
      | true => madeO st (.tok new.length e) fun k => .sl z new (.own k)
      | false => none
    | _ => none
def appS (z b : Nat) (e : TypeId) (s : AV) (new : List AV) (st : St) (K : Kv β) : Option β := outS (appO z b e s new st) K
def nilO (u : U) (x y : AV) : Option Bool :=
  match u, x, y with
  | .ptr _, .nilp, .nilp => some true
  | .ptr _, .nilp, .ip _ => some false
  | .ptr _, .ip _, .nilp => some false
  | .ptr _, .nilp, .mp .. => some false
  | .ptr _, .mp .., .nilp => some false
  | .slice _, .nils, .nils => some true
  | .slice _, .nils, .sl .. => some false
  | .slice _, .sl .., .nils => some false
  | .slice _, .nils, .ms .. => some false
  | .slice _, .ms .., .nils => some false
  | .slice _, .nils, .es => some false
  | .slice _, .es, .nils => some false
  | .map .., .nilm, .nilm => some true
  | .map .., .nilm, .mm _ => some false
  | .map .., .mm _, .nilm => some false
  | .func, .nilfn, .nilfn => some true
  | .func, .nilfn, .fn .. => some false
  | .func, .fn .., .nilfn => some false
  | _, _, _ => none
def nilS (u : U) (x y : AV) (K : Bool → Option β) : Option β := bindO (nilO u x y) K
def notNil : AV → Bool
  | .ip _ => true
  | .mp .. => true
  | .gp .. => true
  | .fn (.func _) _ _ => true
  | _ => false
def nnil (x : AV) (K : Option β) : Option β := chk (notNil x) K
def callP (prim : FuncId → Option Prim) (f : AV) (args : List AV) : Res Plan :=
  match f with
  | .fn (.func g) first cap => match prim g with
    | some q => primP q (first ++ args ++ cap)
    | none => .ok (.call g (first ++ args ++ cap))
  | .yld k => .ok (.yield k args)
  | _ => .error "call: what?"
def callF (O : Orc) (prim : FuncId → Option Prim) (f : AV) (args : List AV) (st : St) (K : Kv β) : Option β := outS (planO O (callP prim f args) st) K
def fillC (place : Nat → Option (Nat × Nat)) (cells : List AV) : List (Nat × List AV) → (List AV → Option β) → Option β
  | [], K => K cells
  | (i, cs) :: l, K =>
    match place i with
    | none => none
    | some (off, size) => chk (cs.length.beq size && (off + size).ble cells.length) (fillC place (splice cells off cs) l K)
abbrev PF := List (Nat × AV)
def PF.get : PF → Nat → Option AV
  | [], _ => none
  | (i, v) :: l, j => match i.beq j with
    | true => some v
    | false => PF.get l j
def ev (G : Nat → Option (List AV)) (p : PF) (x : Operand) (K : AV → Option β) : Option β :=
  match x with
  | .tmp t => match PF.get p t with
    | some v => K v
    | none => none
  | .const v => match ofConst v with
    | .ok v => K v
    | .error _ => none
  | .global g => match G g with
    | some cs => K (.ip cs)
    | none => none
  | .func g => K (.fn (.func g) [] [])
def evs (G : Nat → Option (List AV)) (p : PF) : List Operand → (List AV → Option β) → Option β
  | [], K => K []
  | x :: l, K => ev G p x fun v => evs G p l fun vs => K (v :: vs)
def evi (G : Nat → Option (List AV)) (p : PF) (x : Option Operand) (K : Option Int → Option β) : Option β :=
  match x with
  | none => K none
  | some x => ev G p x fun v => anyI v fun n => K (some n)
def evc (T : TT) (G : Nat → Option (List AV)) (p : PF) (ty : Nat → Option TypeId) : List (Nat × Operand) → (List (Nat × List AV) → Option β) → Option β
  | [], K => K []
  | (i, x) :: l, K => match ty i with
    | none => none
    | some t => tiS T t fun ti => ev G p x fun v => cellsT ti.agg v fun cs => evc T G p ty l fun r => K ((i, cs) :: r)
def sizesS (T : TT) : List (Nat × TypeId) → (List (Nat × Nat) → Option β) → Option β
  | [], K => K []
  | (o, t) :: l, K => tiS T t fun i => sizesS T l fun r => K ((o, i.size) :: r)
def isNilKind : U → Bool
  | .ptr _ => true
  | .slice _ => true
  | .map .. => true
  | .func => true
  | _ => false
def nifS (op : BinOp) (a : AV) : Option AV := nifO op a
def binS (T : TT) (op : BinOp) (t : TypeId) (x y : AV) (K : AV → Option β) : Option β :=
  tiS T t fun i => match isNilKind i.und, op with
    | true, .eql => nilS i.und x y fun b => K (.bool b)
    | true, .neq => nilS i.und x y fun b => K (.bool !b)
    | _, _ => match op, i.und with
      | .add, .str => asS x fun a => asS y fun b => chk ((a.length + b.length).ble 9223372036854775807) (K (.str (a ++ b)))
      | .quo, .int k => asI k x fun a => asI k y fun b => chk (!(decide (b = 0))) (K (.int k (k.wrap (a.tdiv b))))
      | .rem, .int k => asI k x fun a => asI k y fun b => chk (!(decide (b = 0))) (K (.int k (a.tmod b)))
      | .shl, .int k => asI k x fun a => anyI y fun b => chk (!(decide (b < 0))) (K (.int k (k.wrap (a * 2 ^ (min b.toNat k.bits)))))
      | .shr, .int k => asI k x fun a => anyI y fun b => chk (!(decide (b < 0))) (K (.int k (a.fdiv (2 ^ (min b.toNat k.bits)))))
      | _, _ => bindO (toO (binOp T op t x y)) K
def semS (S : Sx) (o : Op) (p : PF) (st : St) (K : Kv β) : Option β :=
  match o with
  | .move x | .assign x => ev S.G p x fun v => K v st q0
  | .pick c a b => ev S.G p c fun c => asB c fun c => ifB c (ev S.G p a fun v => K v st q0) (ev S.G p b fun v => K v st q0)
  | .alloc t => tiS S.T t fun i => made st (.cells t i.zero) (fun k => .mp k 0) K
  | .box t x => tiS S.T t fun i => ev S.G p x fun v => cellsT i.agg v fun cs => chk (cs.length.beq i.size) (onesS cs (match S.imm t with
    | true => fitC cs fun cs' => K (.ip cs') st q0
    | false => made st (.cells t cs) (fun k => .mp k 0) K))
  | .build t parts => tiS S.T t fun i => match i.und with
    | .struct fs => evc S.T S.G p (fun k => (fs[k]?).map (·.2)) parts.toList fun ps => sizesS S.T fs fun sz => fillC (fun k => sz[k]?) i.zero ps fun cs => K (.agg cs) st q0
    | .arr _ e => evc S.T S.G p (fun _ => some e) parts.toList fun ps => tiS S.T e fun ie => fillC (fun k => some (k * ie.size, ie.size)) i.zero ps fun cs => K (.agg cs) st q0
    | _ => none
  | .buildSlice t len parts => tiS S.T t fun i => match i.und with
    | .slice e => tiS S.T e fun ie => evc S.T S.G p (fun _ => some e) parts.toList fun ps => chk ((len * ie.size).ble 16777216 && Nat.ble 1 ie.size) (fillC (fun k => some (k * ie.size, ie.size)) (zeros ie.zero len) ps fun cs => onesS cs (match isFunc ie.und && !bares cs with
      | true => K (.hs ie.size len cs) st q0
      | false => match group ie.size ie.agg len cs with
        | .ok vs => fitTs ie.agg vs fun vs' => K (.sl ie.size vs' .shut) st q0
        | .error _ => none))
    | _ => none
  | .makeSlice t l c => ev S.G p l fun l => ev S.G p c fun c => planS S.O (makeSliceP S.T t l c) st K
  | .load t a => tiS S.T t fun i => ev S.G p a fun a => loadS i.size i.agg a st fun v rd => K v st ⟨rd, .kept⟩
  | .store t a x => tiS S.T t fun i => ev S.G p a fun a => ev S.G p x fun v => cellsT i.agg v fun cs => onesS cs (storeS S.O i.size a v cs st K)
  | .nilCheck x => ev S.G p x fun v => nnil v (K v st q0)
  | .binOp op t x y _ => ev S.G p x fun a => ev S.G p y fun b => match nilC y b && isIfc S.T t with
    | true => bindO (nifS op a) fun v => K v st q0
    | false => binS S.T op t a b fun v => K v st q0
  | .unOp op _ x => ev S.G p x fun x => bindO (toO (unOp op x)) fun v => K v st q0
  | .convert s d x => ev S.G p x fun x => planS S.O (convertP S.T s d x) st K
  | .makeInterface t x => tiS S.T t fun i => match i.und with
    | .iface _ | .other => none
    | _ => ev S.G p x fun v => K (.iface t v) st q0
  | .makeFunc f first cap => evs S.G p first.toList fun a => evs S.G p cap.toList fun c => K (.fn f a c) st q0
  | .makeMap _ none => made st (.map []) (fun k => .mm k) K
  | .slice t x lo hi mx => match mx, hi with
    | some _, none => none
    | _, _ => tiS S.T t fun i => ev S.G p x fun x => evi S.G p lo fun lo => evi S.G p hi fun hi => evi S.G p mx fun mx => match i.und with
      | .str => asS x fun s => match mx with
        | none => hiS hi s.length s.length fun h => loS lo h fun l => K (.str ((s.take h).drop l)) st q0
        | some _ => none
      | .slice e => tiS S.T e fun ie => sliceS ie.size x lo hi mx fun v => K v st q0
      | _ => none
  | .fieldAddr t x f => tiS S.T t fun i => match i.und with
    | .struct fs => match fs[f]? with
      | some (off, ft) => tiS S.T ft fun fi => match fi.size with
        | 0 => none
        | _ + 1 => ev S.G p x fun a => fldA off a fun a' => K a' st q0
      | none => none
    | _ => none
  | .field t x f => ev S.G p x fun x => bindO (toO (field S.T t x f)) fun v => K v st q0
  | .indexAddr t x i => tiS S.T t fun ti => ev S.G p x fun x => ev S.G p i fun i => anyI i fun i => match ti.und with
    | .slice e => tiS S.T e fun ie => idxA ie.size x i st fun a rd => K a st ⟨rd, .kept⟩
    | .arr len e => tiS S.T e fun ie => idxR ie.size len x i fun a => K a st q0
    | _ => none
  | .index t x i => tiS S.T t fun ti => ev S.G p x fun x => ev S.G p i fun i => match ti.und with
    | .str => asS x fun s => anyI i fun i => idxStr s i fun b => K (.int .u8 b.toNat) st q0
    | _ => bindO (toO (indexV S.T t x i)) fun v => K v st q0
  | .lookup t x k ok => ev S.G p x fun x => ev S.G p k fun k => planS S.O (lookupP S.T t x k ok) st K
  | .mapUpdate t m k v | .insert t m k v => ev S.G p m fun m => ev S.G p k fun k => ev S.G p v fun v => planS S.O (mapUpdateP S.T t m k v) st K
  | .range t x => ev S.G p x fun x => tiS S.T t fun i => match i.und with
    | .str => asS x fun s => made st (.sit s 0) (fun k => .mp k 0) K
    | _ => none
  | .next x true => ev S.G p x fun x => planS S.O (nextP x) st K
  | .extract x i => ev S.G p x fun x => unT x fun vs => nthS vs i fun v => K v st q0
  | .call c => evs S.G p c.args.toList fun args => match c.callee with
    | .builtin b => match b, c.argTypes.toList, args with
      | .len, t :: _, [x] => tiS S.T t fun i => match i.und with
        | .str => asS x fun s => K (.int .i64 s.length) st q0
        | .slice _ => lenS x fun n => K (.int .i64 n) st q0
        | _ => planS S.O (lenP S.T t x) st K
      | .append, [t, xt], [s, x] => tiS S.T t fun i => tiS S.T xt fun xi => match i.und, notInt xi.und with
        | .slice e, true => tiS S.T e fun ie => match S.imm (1000000 + t) with
          | true => elemsS x fun new => planS S.O (gsAppendP ie e s new) st K
          | false => match S.imm (2000000 + t) with
          | true => elemsS x fun new => planS S.O (msAppendP ie e s new) st K
          | false => match S.imm (3000000 + t) with
          | true => planS S.O (rowAnyP ie e s x) st K
          | false => elemsS x fun new => fitTs ie.agg new fun new' => chk (sizesOk ie.size new') (appS ie.size ie.bytes e s new' st K)
        | _, _ => none
      | b, ts, args => planS S.O (builtinP S.T S.imm b ts args) st K
    | .value f => ev S.G p f fun f => callF S.O S.prim f args st K
    | .invoke .. => none
  | _ => none
def guardS (all : List Oper) (p : PF) (g : Option (Nat × Bool)) (yes no : PF → Option β) : Option β :=
  match g with
  | none => yes p
  | some (j, want) => match (all[j]?).bind (·.dst) with
    | some d => match PF.get p d with
      | some v => match v with
        | .bool b => match want with
          | true => ifB b (yes ((d, .bool true) :: p)) (no ((d, .bool false) :: p))
          | false => ifB b (no ((d, .bool true) :: p)) (yes ((d, .bool false) :: p))
        | _ => no p
      | none => none
    | none => none
def putS (N : Nat) (d : Option Tmp) (v : AV) (p : PF) (K : PF → Option β) : Option β :=
  match d with
  | none => K p
  | some d => match d.blt N with
    | true => K ((d, v) :: p)
    | false => none
def orderS (ops : List Oper) (j : Nat) (x : Fx) : List (Nat × Fx) → Bool
  | [] => true
  | (i, y) :: l => (behind ops (j + 1) j i || apart y x) && orderS ops j x l
def opsS (S : Sx) (N : Nat) (all : List Oper) (draw : Bool) : (j : Nat) → (seen : List (Nat × Fx)) → List Oper → PF → St → (PF → St → Option β) → Option β
  | _, _, [], p, st, K => K p st
  | j, seen, o :: l, p, st, K => guardS all p o.guard
    (fun p => semS S o.op p st fun v st' x => decT (isArith o.op) S.T o.type v fun v => match draw with
      | false => putS N o.dst v p fun p => opsS S N all draw (j + 1) seen l p st' K
      | true => chk (orderS all j x seen) (putS N o.dst v p fun p => opsS S N all draw (j + 1) ((j, x) :: seen) l p st' K))
    (fun p => putS N o.dst undef p fun p => opsS S N all draw (j + 1) seen l p st K)
def semE (S : Sx) (e : Nat → Option Nat) (o : Oper) (p : PF) (st : St) (K : Kv β) : Option β :=
  match hatchOf e o with
  | some (t, nm) => tiS S.T t fun i => hatchS t i.zero nm st K
  | none => semS S o.op p st K
def opsES (S : Sx) (N : Nat) (e : Nat → Option Nat) (all : List Oper) : (j : Nat) → (seen : List (Nat × Fx)) → List Oper → PF → St → (PF → St → Option β) → Option β
  | _, _, [], p, st, K => K p st
  | j, seen, o :: l, p, st, K => guardS all p o.guard
    (fun p => semE S e o p st fun v st' x => decT (isArith o.op) S.T o.type v fun v =>
      chk (orderS all j x seen) (putS N o.dst v p fun p => opsES S N e all (j + 1) ((j, x) :: seen) l p st' K))
    (fun p => putS N o.dst undef p fun p => opsES S N e all (j + 1) seen l p st K)
def layS (st : St) : List Nat → (St → Option β) → Option β
  | [], K => K st
  | _ :: l, K => letSt (st.add .egg) fun st => layS st l K
end
def loopN {σ β : Type} (F : σ → Option (Sum σ β)) : Nat → σ → Option β
  | 0, _ => none
  | n + 1, s => match F s with
    | some (.inl s') => loopN F n s'
    | some (.inr r) => some r
    | none => none
open Classical in
noncomputable def loopO {σ β : Type} (F : σ → Option (Sum σ β)) (s : σ) : Option β :=
  if h : ∃ r n, loopN F n s = some r then some h.choose else none
structure Lv where
  falls : Bool
  outs : List Nat
  rets : Bool
def leaves : Code → Lv
  | .skip => ⟨true, [], false⟩
  | .label _ => ⟨true, [], false⟩
  | .region .. => ⟨true, [], false⟩
  | .seq a b => let x := leaves a; let y := leaves b
    match x.falls with
    | true => ⟨y.falls, x.outs ++ y.outs, x.rets || y.rets⟩
    | false => x
  | .cond _ a b => let x := leaves a; let y := leaves b; ⟨x.falls || y.falls, x.outs ++ y.outs, x.rets || y.rets⟩
  | .block id c => let x := leaves c; ⟨x.falls || elemN id x.outs, x.outs.filter fun i => !i.beq id, x.rets⟩
  | .loop c => let x := leaves c; ⟨false, x.outs.eraseDups, x.rets⟩
  | .scope c => leaves c
  | .rangeFunc _ _ _ c => let x := leaves c; ⟨true, x.outs.eraseDups, x.rets⟩
  | .exit i => ⟨false, [i], false⟩
  | .ret => ⟨false, [], true⟩
  | _ => ⟨false, [], false⟩
def countN (n : Nat) : List Nat → Nat
  | [] => 0
  | m :: l => match n.beq m with
    | true => countN n l + 1
    | false => countN n l
section
variable {β : Type}
def knownIn (p : PF) : List Nat → List Nat
  | [] => []
  | i :: l => match PF.get p i with
    | some _ => i :: knownIn p l
    | none => knownIn p l
def meetN (live : List Nat) : List Nat → List Nat
  | [] => []
  | i :: l => match elemN i live with
    | true => i :: meetN live l
    | false => meetN live l
def getAll (p : PF) : List Nat → (List AV → Option β) → Option β
  | [], K => K []
  | i :: l, K => match PF.get p i with
    | some v => getAll p l fun vs => K (v :: vs)
    | none => none
def erase (ws : List Nat) : PF → PF
  | [] => []
  | (i, v) :: l => match elemN i ws with
    | true => erase ws l
    | false => (i, v) :: erase ws l
def lookTy : List (Nat × TypeId) → Nat → Option TypeId
  | [], _ => none
  | (i, t) :: l, j => match i.beq j with
    | true => some t
    | false => lookTy l j
def decSlot (T : TT) (tys : List (Nat × TypeId)) (i : Nat) (v : AV) (K : AV → Option β) : Option β :=
  match lookTy tys i with
  | some t => decT false T t v K
  | none => K v
def putAllS (T : TT) (tys : List (Nat × TypeId)) : List Nat → List AV → PF → (PF → Option β) → Option β
  | [], vs, p, K => un0 vs (K p)
  | i :: l, vs, p, K => unc vs fun v vs => decSlot T tys i v fun v => putAllS T tys l vs p fun p => K ((i, v) :: p)
def exNum : Ex → List Ex → Nat → Option Nat
  | _, [], _ => none
  | x, y :: l, n => match decide (x = y) with
    | true => some n
    | false => exNum x l (n + 1)
def sel2 (n : Nat) (a : Option β) (b : Nat → Option β) : Option β :=
  match n with
  | 0 => a
  | n + 1 => b n
def selK (K : Ex → Option β) : List Ex → Nat → Option β
  | [], _ => none
  | x :: l, n => match l with
    | [] => K x
    | _ :: _ => sel2 n (K x) fun n => selK K l n
def hasGuard : List Oper → Bool
  | [] => false
  | o :: l => match o.guard with
    | some _ => true
    | none => hasGuard l
end
def jumpIf {β : Type} (j x : Ex) (A B : Option β) : Option β := ifB (decide (j = x)) A B
def onJump {β : Type} (j : Ex) (K : Ex → Option β) : List Ex → Option β
  | [] => none
  | x :: l => jumpIf j x (K x) (onJump j K l)
def endR {β : Type} (k : Nat) (st : St) (K : Ex → St → Option β) : Option β :=
  match st.get k with
  | .ok (.loop _ _ _ _ _ s p) => chk (s.beq 0 || s.beq 2) (K p (st.put k .dead))
  | _ => none
def rangeS {β : Type} (O : Orc) (f : AV) (lp : Obj) (st : St) (K : Ex → St → Option β) : Option β :=
  match f with
  | .fn (.func g) [] cap => bindO (O.wide g (.yld st.h :: cap) (st.add lp)) fun r => endR st.h r.2 K
  | _ => none
abbrev Car := List AV × St
noncomputable def runS (S : Sx) (N : Nat) (tys : List (Nat × TypeId)) : Code → (live : List Nat) → {β : Type} → PF → St → (Ex → PF → St → Option β) → Option β
  | .skip, _, _, p, st, K => K .normal p st
  | .label _, _, _, p, st, K => K .normal p st
  | .exit i, _, _, p, st, K => K (.exit i) p st
  | .ret, _, _, p, st, K => K .ret p st
  | .scope c, live, _, p, st, K => runS S N tys c live p st K
  | .region _ ops draw, live, _, p, st, K =>
    match draw && S.imm 4000000 with
    | false =>
      match hasGuard ops.toList with
      | false => opsS S N ops.toList draw 0 [] ops.toList p st fun p st => K .normal p st
      | true => let ws := dedup (meetN live (operWrites ops.toList))
        bindO (opsS (β := Car) S N ops.toList draw 0 [] ops.toList p st fun p st => getAll p ws fun vs => some (vs, st)) fun c =>
          putAllS S.T tys ws c.1 (erase (operWrites ops.toList) p) fun p => K .normal p c.2
    | true => layS st (eggsOf ops.toList) fun st' =>
      match hasGuard ops.toList with
      | false => opsES S N (eggAt st.h (eggsOf ops.toList)) ops.toList 0 [] ops.toList p st' fun p st => K .normal p st
      | true => let ws := dedup (meetN live (operWrites ops.toList))
        bindO (opsES (β := Car) S N (eggAt st.h (eggsOf ops.toList)) ops.toList 0 [] ops.toList p st' fun p st => getAll p ws fun vs => some (vs, st)) fun c =>
          putAllS S.T tys ws c.1 (erase (operWrites ops.toList) p) fun p => K .normal p c.2
  | .seq a b, live, _, p, st, K => runS S N tys a (uses b ++ live) p st fun ex p st => match ex with
    | .normal => runS S N tys b live p st K
    | ex => K ex p st
  | .cond c a b, live, _, p, st, K => ev S.G p c fun c => asB c fun c =>
    let x := leaves a; let y := leaves b
    match x.falls && y.falls with
    | false => ifB c (runS S N tys a live p st K) (runS S N tys b live p st K)
    | true =>
      let W := writes a ++ writes b
      let ws := dedup (knownIn p (meetN live W))
      match (x.outs.isEmpty && y.outs.isEmpty) && !(x.rets || y.rets) with
      | true =>
        let J : Ex → PF → St → Option Car := fun ex p st => match ex with
          | .normal => getAll p ws fun vs => some (vs, st)
          | _ => none
        bindO (ifB c (runS S N tys a live p st J) (runS S N tys b live p st J)) fun c =>
          putAllS S.T tys ws c.1 (erase W p) fun p => K .normal p c.2
      | false =>
        let J : Ex → PF → St → Option (Sum Car _) := fun ex p st => match ex with
          | .normal => getAll p ws fun vs => some (.inl (vs, st))
          | ex => bindO (K ex p st) fun r => some (.inr r)
        bindO (ifB c (runS S N tys a live p st J) (runS S N tys b live p st J)) fun r => onSum r fun c => putAllS S.T tys ws c.1 (erase W p) fun p => K .normal p c.2
  | .block id c, live, _, p, st, K =>
    let x := leaves c
    match ((match x.falls with | true => 1 | false => 0) + countN id x.outs).ble 1 with
    | true => runS S N tys c live p st fun ex p st => match ex with
      | .exit i => match i.beq id with
        | true => K .normal p st
        | false => K (.exit i) p st
      | ex => K ex p st
    | false =>
      let W := writes c
      let ws := dedup (knownIn p (meetN live W))
      let J : Ex → PF → St → Option (Sum Car _) := fun ex p st => match ex with
        | .normal => getAll p ws fun vs => some (.inl (vs, st))
        | .exit i => match i.beq id with
          | true => getAll p ws fun vs => some (.inl (vs, st))
          | false => bindO (K (.exit i) p st) fun r => some (.inr r)
        | .ret => bindO (K .ret p st) fun r => some (.inr r)
      bindO (runS S N tys c live p st J) fun r => onSum r fun c => putAllS S.T tys ws c.1 (erase W p) fun p => K .normal p c.2
  | .loop c, live, _, p, st, K =>
    let W := writes c
    let ws := dedup (knownIn p W)
    let us := meetN live ws
    let x := leaves c
    let es : List Ex := x.outs.eraseDups.map .exit ++ (match x.rets with | true => [.ret] | false => [])
    getAll p ws fun vs => bindO (loopO (fun s : Car => putAllS S.T tys ws s.1 (erase W p) fun p => runS (β := Sum Car (Nat × Car)) S N tys c (ws ++ live) p s.2 fun ex p st => match ex with
        | .normal => getAll p ws fun vs => some (.inl (vs, st))
        | ex => bindO (exNum ex es 0) fun k => getAll p us fun vs => some (.inr (k, vs, st))) (vs, st)) fun r =>
      putAllS S.T tys us r.2.1 (erase W p) fun p => selK (fun ex => K ex p r.2.2) es r.1
  | .rangeFunc g ps a c, _, _, p, st, K =>
    let us := capsOf ps.toList a c
    let x := leaves c
    let es : List Ex := .normal :: (x.outs.eraseDups.map .exit ++ (match x.rets with | true => [.ret] | false => []))
    ev S.G p g fun f => getAll p us fun vs => rangeS S.O f (.loop S.imm ps.toList a c (frOf N us vs) 0 .normal) st fun j st' => onJump j (fun ex => K ex p st') es
  | _, _, _, _, _, _ => none
section
variable {β : Type}
def resS (S : Sx) (p : PF) (st : St) (r : ResultVar) (K : AV → Option β) : Option β :=
  match r with
  | .tmp t => match PF.get p t with
    | some v => K v
    | none => none
  | .cell a t => tiS S.T t fun i => match PF.get p a with
    | some a => loadS i.size i.agg a st fun v _ => decT false S.T t v K
    | none => none
def ressS (S : Sx) (p : PF) (st : St) : List ResultVar → (List AV → Option β) → Option β
  | [], K => K []
  | r :: l, K => resS S p st r fun v => ressS S p st l fun vs => K (v :: vs)
def resUses : List ResultVar → List Nat
  | [] => []
  | .tmp t :: l => t :: resUses l
  | .cell a _ :: l => a :: resUses l
def typesIn : Code → List (Nat × TypeId)
  | .region _ ops _ => go ops.toList
  | .seq a b => typesIn a ++ typesIn b
  | .cond _ a b => typesIn a ++ typesIn b
  | .block _ c => typesIn c
  | .loop c => typesIn c
  | .scope c => typesIn c
  | .rangeFunc _ _ a c => typesIn a ++ typesIn c
  | _ => []
  where
  go : List Oper → List (Nat × TypeId)
    | [] => []
    | o :: l => match o.dst with
      | some d => (d, o.type) :: go l
      | none => go l
def paramTys : Nat → List TypeId → List (Nat × TypeId)
  | _, [] => []
  | i, t :: l => (i, t) :: paramTys (i + 1) l
def argsS (T : TT) : Nat → List TypeId → List AV → PF → (PF → Option β) → Option β
  | _, _, [], p, K => K p
  | i, ts, v :: vs, p, K => match ts with
    | [] => argsS T (i + 1) [] vs ((i, v) :: p) K
    | t :: ts => decT false T t v fun v => argsS T (i + 1) ts vs ((i, v) :: p) K
noncomputable def bodyS (S : Sx) (fn : Func) (args : List AV) (st : St) (K : AV → St → Option β) : Option β :=
  match fn.body with
  | none => none
  | some c => match args.length.ble fn.ntmps with
    | false => none
    | true => argsS S.T 0 fn.params.toList args [] fun p => runS S fn.ntmps (paramTys 0 fn.params.toList ++ typesIn c) c (resUses fn.results.toList) p st fun ex p st => match ex with
      | .exit _ => none
      | _ => ressS S p st fn.results.toList fun vs => K (oneOf vs) st
def setLoopS {β : Type} (k s0 s1 : Nat) (p : Ex) (st : St) (K : St → Option β) : Option β :=
  match st.get k with
  | .ok (.loop imm ps a c fr s _) => chk (s.beq s0) (K (st.put k (.loop imm ps a c fr s1 p)))
  | _ => none
noncomputable def runR (S : Sx) (N : Nat) (tys : List (Nat × TypeId)) (k : Nat) (a c : Code) (p : PF) (st : St) : Option (AV × St) :=
  runS S N tys a (uses c) p st fun ex p st => match ex with
    | .normal => setLoopS k 0 1 .normal st fun st => runS S N tys c [] p st fun ex _ st => match ex with
      | .normal => setLoopS k 1 0 .normal st fun st => some (.bool true, st)
      | ex => setLoopS k 1 2 ex st fun st => some (.bool false, st)
    | _ => none
def frzS (st : St) (base : Nat) (v : AV) (K : AV → Option β) : Option β :=
  match freeze st base 100 v with
  | .ok v => chk (bare v) (K v)
  | .error _ => none
end
def Evt (P : Nat → Prop) : Prop := ∃ m, ∀ n, m ≤ n → P n
theorem Evt.always {P : Nat → Prop} (h : ∀ n, P n) : Evt P := ⟨0, fun n _ => h n⟩
theorem Evt.lift {P Q : Nat → Prop} (h : Evt P) (k : ∀ n, P n → Q n) : Evt Q := by
  obtain ⟨m, h⟩ := h
  exact ⟨m, fun n hn => k n (h n hn)⟩
theorem Evt.both {P Q : Nat → Prop} (h : Evt P) (k : Evt Q) : Evt fun n => P n ∧ Q n := by
  obtain ⟨m, h⟩ := h
  obtain ⟨m', k⟩ := k
  exact ⟨max m m', fun n hn => ⟨h n (by omega), k n (by omega)⟩⟩
section
variable {β : Type} {r : β}
theorem toO_some {α : Type} {x : Res α} {a : α} (h : toO x = some a) : x = .ok a := by
  cases x <;> simp_all [toO]
theorem bindO_some {α : Type} {x : Option α} {K : α → Option β} (h : bindO x K = some r) : ∃ a, x = some a ∧ K a = some r := by
  cases x with
  | none => simp [bindO] at h
  | some a => exact ⟨a, rfl, h⟩
theorem asI_some {k : IntKind} {v : AV} {K : Int → Option β} (h : asI k v K = some r) : ∃ n, v = .int k n ∧ K n = some r := by
  unfold asI at h
  split at h
  · rename_i j n
    split at h
    · rename_i e
      have e := of_decide_eq_true e
      subst e
      exact ⟨n, rfl, h⟩
    · cases h
  · cases h
theorem asB_some {v : AV} {K : Bool → Option β} (h : asB v K = some r) : ∃ b, v = .bool b ∧ K b = some r := by
  unfold asB at h
  split at h
  · exact ⟨_, rfl, h⟩
  · cases h
theorem asS_some {v : AV} {K : List UInt8 → Option β} (h : asS v K = some r) : ∃ b, v = .str b ∧ K b = some r := by
  unfold asS at h
  split at h
  · exact ⟨_, rfl, h⟩
  · cases h
theorem anyI_some {v : AV} {K : Int → Option β} (h : anyI v K = some r) : ∃ k n, v = .int k n ∧ K n = some r := by
  unfold anyI at h
  split at h
  · exact ⟨_, _, rfl, h⟩
  · cases h
theorem unA_some {v : AV} {K : List AV → Option β} (h : unA v K = some r) : ∃ cs, v = .agg cs ∧ K cs = some r := by
  unfold unA at h
  split at h
  · exact ⟨_, rfl, h⟩
  · cases h
theorem unT_some {v : AV} {K : List AV → Option β} (h : unT v K = some r) : ∃ cs, v = .tup cs ∧ K cs = some r := by
  unfold unT at h
  split at h
  · exact ⟨_, rfl, h⟩
  · cases h
theorem unc_some {l : List AV} {K : AV → List AV → Option β} (h : unc l K = some r) : ∃ v vs, l = v :: vs ∧ K v vs = some r := by
  unfold unc at h
  split at h
  · exact ⟨_, _, rfl, h⟩
  · cases h
theorem un0_some {l : List AV} {K : Option β} (h : un0 l K = some r) : l = [] ∧ K = some r := by
  unfold un0 at h
  split at h
  · exact ⟨rfl, h⟩
  · cases h
theorem chk_some {b : Bool} {K : Option β} (h : chk b K = some r) : b = true ∧ K = some r := by
  cases b
  · cases h
  · exact ⟨rfl, h⟩
theorem nthS_some {cs : List AV} {off : Nat} {K : AV → Option β} (h : nthS cs off K = some r) : ∃ v, cs[off]? = some v ∧ K v = some r := by
  unfold nthS at h
  split at h
  · exact ⟨_, by assumption, h⟩
  · cases h
theorem nthAV_of : ∀ {cs : List AV} {off : Nat} {v : AV}, cs[off]? = some v → nthAV cs off = .ok v
  | [], _, _, h => by simp at h
  | _ :: _, 0, _, h => by simp at h; simp [nthAV, h]
  | _ :: l, n + 1, _, h => by simp at h; simp only [nthAV]; exact nthAV_of h
theorem decC_some {b : Bool} {z v : AV} {K : AV → Option β} (h : decC b z v K = some r) : K v = some r := by
  unfold decC at h
  split at h
  · obtain ⟨n, rfl, h'⟩ := asI_some h
    cases b <;> exact h'
  · obtain ⟨n, rfl, h'⟩ := asB_some h; exact h'
  · obtain ⟨n, rfl, h'⟩ := asS_some h
    cases b <;> exact h'
  · exact h
theorem decL_some : ∀ {zs cs : List AV} {K : List AV → Option β}, decL zs cs K = some r → K cs = some r
  | [], cs, K, h => by
    obtain ⟨rfl, h⟩ := un0_some h
    exact h
  | z :: zs, cs, K, h => by
    obtain ⟨v, l, rfl, hd⟩ := unc_some h
    exact decL_some (K := fun l' => K (v :: l')) (decC_some (K := fun v' => decL zs l fun l' => K (v' :: l')) hd)
theorem decT_some {b : Bool} {T : TT} {t : TypeId} {v : AV} {K : AV → Option β} (h : decT b T t v K = some r) : K v = some r := by
  unfold decT at h
  split at h
  · split at h
    · split at h
      · obtain ⟨cs, rfl, h⟩ := unA_some h
        exact decL_some (K := fun cs' => K (.agg cs')) h
      · exact h
    · split at h
      · exact decC_some h
      · exact h
  · exact h
theorem tiS_some {T : TT} {t : TypeId} {K : TI → Option β} (h : tiS T t K = some r) : ∃ i, ti T t = .ok i ∧ K i = some r := by
  unfold tiS at h
  split at h
  · rename_i i e; exact ⟨i, ti_ok.2 e, h⟩
  · cases h
theorem cells_one {v : AV} (h : one v = true) : v.cells = [v] := by
  cases v <;> first | rfl | (cases h; done)
theorem cellsT_some {agg : Bool} {v : AV} {K : List AV → Option β} (h : cellsT agg v K = some r) : K v.cells = some r ∧ (agg = true → ∃ cs, v = .agg cs) ∧ (agg = false → one v = true) := by
  cases agg with
  | true => obtain ⟨cs, rfl, h⟩ := unA_some h; exact ⟨h, fun _ => ⟨cs, rfl⟩, (by intro h; cases h)⟩
  | false =>
    obtain ⟨h1, h⟩ := chk_some h
    rw [cells_one h1]
    exact ⟨h, (by intro h; cases h), fun _ => h1⟩
theorem onesS_some : ∀ {cs : List AV} {K : Option β}, onesS cs K = some r → ones cs = true ∧ K = some r
  | [], _, h => ⟨rfl, h⟩
  | v :: l, K, h => by
    obtain ⟨h1, h⟩ := chk_some h
    obtain ⟨h2, h⟩ := onesS_some h
    exact ⟨by simp [ones, h1, h2], h⟩
theorem fit1_some {v : AV} {K : AV → Option β} (h : fit1 v K = some r) : ∃ v', fit v = .ok v' ∧ K v' = some r := by
  unfold fit1 at h
  split at h
  · exact ⟨_, by assumption, h⟩
  · cases h
theorem fitC_some : ∀ {cs : List AV} {K : List AV → Option β}, fitC cs K = some r → ∃ cs', fits cs = .ok cs' ∧ K cs' = some r
  | [], _, h => ⟨[], rfl, h⟩
  | v :: l, K, h => by
    obtain ⟨v', e, h⟩ := fit1_some h
    obtain ⟨l', e', h⟩ := fitC_some h
    exact ⟨v' :: l', by simp [fits, e, e']; rfl, h⟩
theorem fit_one {v v' : AV} (h : one v = true) (e : fit v = .ok v') : v' = strip v ∧ bare (strip v) = true := by
  have : fit v = (match bare (strip v) with | true => .ok (strip v) | false => .error "a name within what never changes") := by
    cases v <;> first | rfl | (cases h; done)
  rw [this] at e
  split at e
  · rename_i hb; cases e; exact ⟨rfl, hb⟩
  · cases e
theorem fits_strip : ∀ {cs cs' : List AV}, ones cs = true → fits cs = .ok cs' → cs' = cs.map strip ∧ bares (cs.map strip) = true
  | [], cs', _, e => by cases e; exact ⟨rfl, rfl⟩
  | v :: l, cs', h, e => by
    simp only [ones, Bool.and_eq_true] at h
    simp only [fits, bind_ok, pure_ok] at e
    obtain ⟨v', e1, l', e2, rfl⟩ := e
    obtain ⟨rfl, h1⟩ := fit_one h.1 e1
    obtain ⟨rfl, h2⟩ := fits_strip h.2 e2
    exact ⟨rfl, by simp [bares_cons, h1, h2]⟩
theorem fit_agg {cs cs' : List AV} (h : ones cs = true) (e : fits cs = .ok cs') : fit (.agg cs) = .ok (.agg cs') := by
  obtain ⟨rfl, hb⟩ := fits_strip h e
  simp only [fit]
  have : bare (.agg (cs.map strip)) = true := hb
  rw [this]
theorem fitT_some {agg : Bool} {v : AV} {K : AV → Option β} (h : fitT agg v K = some r) : ∃ v', fit v = .ok v' ∧ K v' = some r := by
  cases agg with
  | true =>
    obtain ⟨cs, rfl, h⟩ := unA_some h
    obtain ⟨h1, h⟩ := onesS_some h
    obtain ⟨cs', e, h⟩ := fitC_some h
    exact ⟨_, fit_agg h1 e, h⟩
  | false => exact fit1_some h
theorem fitTs_some {agg : Bool} : ∀ {vs : List AV} {K : List AV → Option β}, fitTs agg vs K = some r → ∃ vs', fits vs = .ok vs' ∧ K vs' = some r
  | [], _, h => ⟨[], rfl, h⟩
  | v :: l, K, h => by
    obtain ⟨v', e, h⟩ := fitT_some h
    obtain ⟨l', e', h⟩ := fitTs_some h
    exact ⟨v' :: l', by simp [fits, e, e']; rfl, h⟩
end
section
variable {E : Env} {O : Orc}
structure OOk (E : Env) (O : Orc) : Prop where
  full : O.full = E.full
  isLook : O.isLook = E.isLook
  bare : ∀ f a v, O.bare f a = some v → Evt fun n => (caller E n).bare f a = .ok v
  wide : ∀ f a st v, O.wide f a st = some v → Evt fun n => (caller E n).wide f a st = .ok v
  look : ∀ f a st v, O.look f a st = some v → Evt fun n => (caller E n).look f a st = .ok v
  round : ∀ k a st v, O.round k a st = some v → Evt fun n => (caller E n).round k a st = .ok v
theorem caller_full (E : Env) : ∀ n, (caller E n).full = E.full
  | 0 => rfl
  | _ + 1 => rfl
theorem caller_isLook (E : Env) : ∀ n, (caller E n).isLook = E.isLook
  | 0 => rfl
  | _ + 1 => rfl
def PlanTo (E : Env) (st : St) (p : Res Plan) (v : AV) (x : Fx) : Prop := Evt fun n => (p >>= runPlan (caller E n) st) = .ok (v, x)
variable {β : Type} {r : β} {K : Kv β} {st : St}
theorem outS_some {q : Option Out} (h : outS q K = some r) : ∃ v st' x, q = some (v, st', x) ∧ K v st' x = some r := by
  obtain ⟨⟨v, st', x⟩, e, h⟩ := bindO_some h
  exact ⟨v, st', x, e, h⟩
theorem wroteO_some {id : Nat} {o : Obj} {v u : AV} {rd : List Nat} {st' : St} {x : Fx} (h : wroteO st id o v rd = some (u, st', x)) : didOf st id (some o) = .ok (.wrote id o) ∧ u = v ∧ x = ⟨rd, .wrote id o⟩ ∧ st' = x.did.app st := by
  unfold wroteO at h
  split at h
  · rename_i h1
    simp only [Option.some.injEq, Prod.mk.injEq] at h
    obtain ⟨rfl, rfl, rfl⟩ := h
    have : id.blt st.ro = false := blt_false.2 (Nat.le_of_ble_eq_true h1)
    exact ⟨by simp only [didOf, this], rfl, rfl, rfl⟩
  · cases h
theorem madeO_some {o : Obj} {f : Nat → AV} {v : AV} {st' : St} {x : Fx} (h : madeO st o f = some (v, st', x)) : PlanTo E st (.ok (.new o f)) v x ∧ st' = x.did.app st := by
  simp only [madeO, Option.some.injEq, Prod.mk.injEq] at h
  obtain ⟨rfl, rfl, rfl⟩ := h
  exact ⟨Evt.always fun _ => rfl, rfl⟩
theorem made_some {o : Obj} {f : Nat → AV} (h : made st o f K = some r) : ∃ v x, PlanTo E st (.ok (.new o f)) v x ∧ K v (x.did.app st) x = some r := by
  obtain ⟨v, st', x, e, h⟩ := outS_some h
  obtain ⟨hp, rfl⟩ := madeO_some (E := E) e
  exact ⟨v, x, hp, h⟩
theorem planO_some (hO : OOk E O) {p : Res Plan} {v : AV} {st' : St} {x : Fx} (h : planO O p st = some (v, st', x)) : PlanTo E st p v x ∧ st' = x.did.app st := by
  unfold planO at h
  split at h
  · cases h; exact ⟨Evt.always fun _ => rfl, rfl⟩
  · rename_i id f
    split at h
    · rename_i o ho
      split at h
      · rename_i v e
        cases h
        exact ⟨Evt.always fun _ => by simp only [ok_bind, runPlan, ho, e, didOf]; rfl, rfl⟩
      · rename_i v o' e
        obtain ⟨h1, rfl, rfl, rfl⟩ := wroteO_some h
        exact ⟨Evt.always fun _ => by simp only [ok_bind, runPlan, ho, e, h1]; rfl, rfl⟩
      · cases h
    · cases h
  · rename_i id k f
    split at h
    · rename_i o ho
      split at h
      · rename_i e
        split at h
        · rename_i v e'
          cases h
          exact ⟨Evt.always fun _ => by simp only [ok_bind, runPlan, ho, e, e']; rfl, rfl⟩
        · cases h
      · rename_i j e
        split at h
        · rename_i h1
          split at h
          · rename_i o' ho'
            split at h
            · rename_i v e'
              cases h
              exact ⟨Evt.always fun _ => by simp only [ok_bind, runPlan, ho, e, h1, ho', e']; rfl, rfl⟩
            · cases h
          · cases h
        · cases h
      · cases h
    · cases h
  · exact madeO_some h
  · rename_i f args
    unfold callO at h
    split at h
    · rename_i hb
      split at h
      · rename_i v e
        cases h
        refine ⟨(hO.bare _ _ _ e).lift fun n hn => ?_, rfl⟩
        rw [hO.full] at hb
        simp only [ok_bind, runPlan, caller_full, hb, hn]; rfl
      · cases h
    · rename_i hb
      split at h
      · rename_i hl
        split at h
        · rename_i v e
          cases h
          refine ⟨(hO.look _ _ _ _ e).lift fun n hn => ?_, rfl⟩
          rw [hO.full] at hb
          rw [hO.isLook] at hl
          simp only [ok_bind, runPlan, caller_full, caller_isLook, hb, hl, hn]; rfl
        · cases h
      · rename_i hl
        split at h
        · rename_i p e
          cases h
          refine ⟨(hO.wide _ _ _ _ e).lift fun n hn => ?_, rfl⟩
          rw [hO.full] at hb
          rw [hO.isLook] at hl
          simp only [ok_bind, runPlan, caller_full, caller_isLook, hb, hl, hn]; rfl
        · cases h
  · rename_i k args
    unfold yieldO at h
    split at h
    · rename_i p e
      cases h
      refine ⟨(hO.round _ _ _ _ e).lift fun n hn => ?_, rfl⟩
      simp only [ok_bind, runPlan, hn]; rfl
    · cases h
  · cases h
theorem planS_some (hO : OOk E O) {p : Res Plan} (h : planS O p st K = some r) : ∃ v x, PlanTo E st p v x ∧ K v (x.did.app st) x = some r := by
  obtain ⟨v, st', x, e, h⟩ := outS_some h
  obtain ⟨hp, rfl⟩ := planO_some hO e
  exact ⟨v, x, hp, h⟩
theorem PlanTo.of {p q : Res Plan} {v : AV} {x : Fx} (e : p = q) (h : PlanTo E st p v x) : PlanTo E st q v x := e ▸ h
end
section
variable {β : Type} {r : β}
theorem insideS_some {i : Int} {n : Nat} {K : Nat → Option β} (h : insideS i n K = some r) : ∃ k, inside i n = .ok k ∧ K k = some r := by
  unfold insideS at h
  split at h
  · rename_i k
    obtain ⟨h1, h⟩ := chk_some h
    exact ⟨k, by simp only [inside, h1], h⟩
  · cases h
theorem uptoS_some {i : Int} {n : Nat} {K : Nat → Option β} (h : uptoS i n K = some r) : ∃ k, upto i n = .ok k ∧ K k = some r := by
  unfold uptoS at h
  split at h
  · rename_i k
    obtain ⟨h1, h⟩ := chk_some h
    exact ⟨k, by simp only [upto, h1], h⟩
  · cases h
theorem loS_some {lo : Option Int} {m : Nat} {K : Nat → Option β} (h : loS lo m K = some r) : ∃ k, loOf lo m = .ok k ∧ K k = some r := by
  cases lo with
  | none => exact ⟨0, rfl, h⟩
  | some l => exact uptoS_some h
theorem hiS_some {hi : Option Int} {m d : Nat} {K : Nat → Option β} (h : hiS hi m d K = some r) : ∃ k, hiOf hi m d = .ok k ∧ K k = some r := by
  cases hi with
  | none => exact ⟨d, rfl, h⟩
  | some l => exact uptoS_some h
end
def Fr.look (fr : Fr) (i : Nat) : Option AV := match fr.strict with
  | true => fr.t.get i
  | false => some (fr.get i)
theorem look_get {fr : Fr} {i : Nat} {v : AV} (h : fr.look i = some v) : fr.get i = v := by
  unfold Fr.look at h
  split at h
  · unfold Fr.get; rw [h]; rfl
  · exact Option.some.inj h
theorem look_eval {G : Nat → Option (List AV)} {fr : Fr} {i : Nat} {v : AV} (h : fr.look i = some v) : evalO G fr (.tmp i) = .ok v := by
  unfold Fr.look at h
  simp only [evalO]
  split at h
  · rename_i e; rw [e]; dsimp only; rw [h]
  · rename_i e; rw [e]; dsimp only; rw [Option.some.inj h]
theorem look_put {fr : Fr} {d i : Nat} {v : AV} (hd : d < fr.n) : (fr.put (some d) v).look i = if d = i then some v else fr.look i := by
  have hb : d.blt fr.n = true := blt_true.2 hd
  have e : fr.put (some d) v = ⟨fr.n, fr.t.put d v, fr.strict⟩ := by simp only [Fr.put, hb]
  rw [e]
  unfold Fr.look Fr.get
  dsimp only
  rw [Tr.get_put]
  by_cases h : d = i
  · rw [if_pos h, if_pos h]; cases fr.strict <;> rfl
  · rw [if_neg h, if_neg h]
def Sub (N : Nat) (p : PF) (fr : Fr) : Prop := fr.n = N ∧ ∀ i v, PF.get p i = some v → fr.look i = some v
theorem PF.get_cons {i j : Nat} {v : AV} {l : PF} : PF.get ((i, v) :: l) j = if i = j then some v else PF.get l j := by
  simp only [PF.get]
  by_cases h : i = j
  · simp [h]
  · have : i.beq j = false := by
      cases e : i.beq j
      · rfl
      · exact absurd (Nat.eq_of_beq_eq_true e) h
    simp [this, h]
section
variable {β : Type} {r : β} {N : Nat} {p : PF} {fr : Fr} {G : Nat → Option (List AV)} {T : TT} {E : Env} {O : Orc} {st : St}
theorem ev_some {x : Operand} {K : AV → Option β} (h : ev G p x K = some r) (hs : Sub N p fr) : ∃ v, evalO G fr x = .ok v ∧ K v = some r := by
  unfold ev at h
  split at h
  · split at h
    · rename_i v e
      exact ⟨v, look_eval (hs.2 _ _ e), h⟩
    · cases h
  · split at h
    · rename_i v e
      exact ⟨v, by simp only [evalO, e], h⟩
    · cases h
  · split at h
    · rename_i cs e
      exact ⟨_, by simp only [evalO, e], h⟩
    · cases h
  · exact ⟨_, rfl, h⟩
theorem evs_some : ∀ {l : List Operand} {K : List AV → Option β}, evs G p l K = some r → Sub N p fr → ∃ vs, evalL G fr l = .ok vs ∧ K vs = some r
  | [], _, h, _ => ⟨[], rfl, h⟩
  | x :: l, K, h, hs => by
    obtain ⟨v, e, h⟩ := ev_some h hs
    obtain ⟨vs, e', h⟩ := evs_some h hs
    exact ⟨v :: vs, by simp only [evalL, e, e', ok_bind, pure_eq], h⟩
theorem evi_some {x : Option Operand} {K : Option Int → Option β} (h : evi G p x K = some r) (hs : Sub N p fr) : ∃ o oi, evalOpt G fr x = .ok o ∧ optInt o = .ok oi ∧ K oi = some r := by
  cases x with
  | none => exact ⟨none, none, rfl, rfl, h⟩
  | some x =>
    obtain ⟨v, e, h⟩ := ev_some h hs
    obtain ⟨k, n, rfl, h⟩ := anyI_some h
    exact ⟨some (.int k n), some n, by simp only [evalOpt, e, ok_bind, pure_eq], rfl, h⟩
theorem evc_some {ty : Nat → Option TypeId} : ∀ {l : List (Nat × Operand)} {K : List (Nat × List AV) → Option β}, evc T G p ty l K = some r → Sub N p fr →
    ∃ vs : List (Nat × AV), evalParts G fr l = .ok vs ∧ K (vs.map fun q => (q.1, q.2.cells)) = some r
  | [], _, h, _ => ⟨[], rfl, h⟩
  | (i, x) :: l, K, h, hs => by
    unfold evc at h
    split at h
    · cases h
    · obtain ⟨ti, _, h⟩ := tiS_some h
      obtain ⟨v, e, h⟩ := ev_some h hs
      obtain ⟨h, _, _⟩ := cellsT_some h
      obtain ⟨vs, e', h⟩ := evc_some h hs
      exact ⟨(i, v) :: vs, by simp only [evalParts, e, e', ok_bind, pure_eq], h⟩
theorem fillC_some {place : Nat → Option (Nat × Nat)} : ∀ {vs : List (Nat × AV)} {cells : List AV} {K : List AV → Option β}, fillC place cells (vs.map fun q => (q.1, q.2.cells)) K = some r → ∃ cs, fillAt place cells vs = .ok cs ∧ K cs = some r
  | [], cells, _, h => ⟨cells, rfl, h⟩
  | (i, v) :: vs, cells, K, h => by
    simp only [List.map_cons, fillC] at h
    split at h
    · cases h
    · rename_i off size e
      obtain ⟨h1, h⟩ := chk_some h
      obtain ⟨cs, e', h⟩ := fillC_some h
      exact ⟨cs, by simp only [fillAt, e, h1, e'], h⟩
theorem sizesS_some : ∀ {l : List (Nat × TypeId)} {K : List (Nat × Nat) → Option β}, sizesS T l K = some r → ∃ ps, sizesOf T l = .ok ps ∧ K ps = some r
  | [], _, h => ⟨[], rfl, h⟩
  | (o, t) :: l, K, h => by
    obtain ⟨i, e, h⟩ := tiS_some h
    obtain ⟨ps, e', h⟩ := sizesS_some h
    exact ⟨_, by simp only [sizesOf, e, e', ok_bind, pure_eq], h⟩
theorem nthO_some : ∀ {l : List AV} {n : Nat} {v : AV}, nthO l n = some v → nthAV l n = .ok v
  | [], _, _, h => by cases h
  | _ :: _, 0, _, h => by cases h; rfl
  | _ :: l, n + 1, _, h => nthO_some (l := l) (n := n) h
theorem insideO_some {i : Int} {n k : Nat} (h : insideO i n = some k) : inside i n = .ok k := by
  unfold insideO at h
  split at h
  · split at h
    · rename_i h1; cases h; simp only [inside, h1]
    · cases h
  · cases h
theorem loadS_some {i : TI} {a : AV} {K : Kv β} (h : (loadS i.size i.agg a st fun v rd => K v st ⟨rd, .kept⟩) = some r) : ∃ v x, PlanTo E st (loadP i a) v x ∧ K v (x.did.app st) x = some r := by
  obtain ⟨⟨v, rd⟩, e, h⟩ := bindO_some h
  unfold loadO at e
  split at e
  · split at e
    · rename_i e1
      cases e
      exact ⟨v, q0, Evt.always fun _ => by simp only [loadP, e1, ok_bind, pure_eq, runPlan]; rfl, h⟩
    · cases e
  · rename_i id off
    split at e
    · rename_i t cs e1
      split at e
      · rename_i e2
        cases e
        exact ⟨v, ⟨[id], .kept⟩, Evt.always fun _ => by simp only [loadP, readP, e1, e2, ok_bind, pure_eq, runPlan, cellsOf, didOf], h⟩
      · cases e
    · cases e
  · rename_i k n off
    split at e
    · rename_i m ee z cs e1
      split at e
      · rename_i hm
        split at e
        · rename_i e2
          cases e
          exact ⟨v, ⟨[k], .kept⟩, Evt.always fun _ => by simp only [loadP, readP, e1, e2, hm, ok_bind, pure_eq, runPlan, didOf], h⟩
        · cases e
      · cases e
    · cases e
  · cases e
theorem storeS_some (hO : OOk E O) {i : TI} {a v : AV} {K : Kv β} (h2 : ones v.cells = true) (h : storeS O i.size a v v.cells st K = some r) : ∃ u x, PlanTo E st (match a with | .gp k m off => gpStoreP i k m off v | a => storeP i a v) u x ∧ K u (x.did.app st) x = some r := by
  obtain ⟨u, st', x, e, h⟩ := outS_some h
  unfold storeO at e
  split at e
  · rename_i id off
    split at e
    · rename_i h1
      split at e
      · rename_i t cs e1
        split at e
        · rename_i h3
          obtain ⟨h4, rfl, rfl, rfl⟩ := wroteO_some e
          refine ⟨undef, _, Evt.always fun _ => ?_, h⟩
          simp only [storeP, h1, h2, Bool.and_self, ok_bind, runPlan, e1, typedOf, h3, pure_eq]
          rw [show splice cs off v.cells = splS cs off v.cells from rfl, h4]; rfl
        · cases e
      · cases e
    · cases e
  · obtain ⟨h1, rfl⟩ := planO_some hO e
    exact ⟨u, x, h1, h⟩
  · cases e
theorem idxA_some {t e : TypeId} {i ie : TI} {x : AV} {j : Int} {k : IntKind} {K : Kv β} (hi : ti T t = .ok i) (hu : i.und = .slice e) (he : ti T e = .ok ie) (h : (idxA ie.size x j st fun a rd => K a st ⟨rd, .kept⟩) = some r) :
    ∃ v x', PlanTo E st (match x with | .gs a z n => gsIndexP T t a z n (.int k j) | x => (do pure (.val (← indexAddr T t x (.int k j))))) v x' ∧ K v (x'.did.app st) x' = some r := by
  obtain ⟨⟨v, rd⟩, eo, h⟩ := bindO_some h
  unfold idxO at eo
  split at eo
  · split at eo
    · rename_i h1
      split at eo
      · rename_i n h2
        split at eo
        · rename_i u h3
          cases eo
          refine ⟨_, q0, Evt.always fun _ => ?_, h⟩
          simp only [indexAddr, VM.asInt, ok_bind, hi, hu, insideO_some h2, he, h1, nthO_some h3, pure_eq, runPlan]; rfl
        · cases eo
      · cases eo
    · cases eo
  · split at eo
    · rename_i h1
      split at eo
      · rename_i n h2
        cases eo
        refine ⟨_, q0, Evt.always fun _ => ?_, h⟩
        simp only [indexAddr, VM.asInt, ok_bind, hi, hu, insideO_some h2, he, h1, pure_eq, runPlan]; rfl
      · cases eo
    · cases eo
  · rename_i a sz n
    split at eo
    · rename_i h1
      split at eo
      · rename_i m h2
        split at eo
        · rename_i mm ee z' es eg
          split at eo
          · rename_i h3
            split at eo
            · rename_i hb
              split at eo
              · rename_i u h4
                cases eo
                refine ⟨_, ⟨[a], .kept⟩, Evt.always fun _ => ?_, h⟩
                simp only [gsIndexP, VM.asInt, ok_bind, hi, hu, insideO_some h2, he, h1, readP, runPlan, eg, h3, hb, nthO_some h4, pure_eq, didOf]
              · cases eo
            · rename_i hb
              cases eo
              refine ⟨_, ⟨[a], .kept⟩, Evt.always fun _ => ?_, h⟩
              simp only [gsIndexP, VM.asInt, ok_bind, hi, hu, insideO_some h2, he, h1, readP, runPlan, eg, h3, hb, pure_eq, didOf]
          · cases eo
        · rename_i mm ee z' cs eg
          split at eo
          · rename_i h3
            cases eo
            refine ⟨_, ⟨[a], .kept⟩, Evt.always fun _ => ?_, h⟩
            simp only [gsIndexP, VM.asInt, ok_bind, hi, hu, insideO_some h2, he, h1, readP, runPlan, eg, h3, pure_eq, didOf]
          · cases eo
        · cases eo
      · cases eo
    · cases eo
  · cases eo
theorem fldA_some {off : Nat} {a : AV} {K : AV → Option β} (h : fldA off a K = some r) : (∃ cs, a = .ip cs ∧ K (.ip (cs.drop off)) = some r) ∨ (∃ id o, a = .mp id o ∧ K (.mp id (o + off)) = some r) ∨ (∃ id n o, a = .gp id n o ∧ K (.gp id n (o + off)) = some r) := by
  obtain ⟨v, e, h⟩ := bindO_some h
  unfold fldO at e
  split at e
  · cases e; exact .inl ⟨_, rfl, h⟩
  · cases e; exact .inr (.inl ⟨_, _, rfl, h⟩)
  · cases e; exact .inr (.inr ⟨_, _, _, rfl, h⟩)
  · cases e
theorem idxR_some {t e : TypeId} {i ie : TI} {x : AV} {j : Int} {k : IntKind} {len : Nat} {K : Kv β} (hi : ti T t = .ok i) (hu : i.und = .arr len e) (he : ti T e = .ok ie) (h : (idxR ie.size len x j fun a => K a st q0) = some r) :
    ∃ v x', PlanTo E st (match x with | .gs a z n => gsIndexP T t a z n (.int k j) | x => (do pure (.val (← indexAddr T t x (.int k j))))) v x' ∧ K v (x'.did.app st) x' = some r := by
  obtain ⟨n, h2, h⟩ := insideS_some h
  rcases fldA_some h with ⟨cs, rfl, h⟩ | ⟨id, o, rfl, h⟩ | ⟨id, m, o, rfl, h⟩
  · refine ⟨_, q0, Evt.always fun _ => ?_, h⟩
    simp only [indexAddr, VM.asInt, ok_bind, hi, hu, h2, he, pure_eq, runPlan]; rfl
  · refine ⟨_, q0, Evt.always fun _ => ?_, h⟩
    simp only [indexAddr, VM.asInt, ok_bind, hi, hu, h2, he, pure_eq, runPlan]; rfl
  · refine ⟨_, q0, Evt.always fun _ => ?_, h⟩
    simp only [indexAddr, VM.asInt, ok_bind, hi, hu, h2, he, pure_eq, runPlan]; rfl
theorem hiO_hi {hi : Option Int} {m d a : Nat} (h : hiO hi m d = some a) : hiOf hi m d = .ok a := by
  unfold hiO at h
  split at h
  · split at h
    · split at h
      · rename_i h1; cases h; simp only [hiOf, upto, h1]
      · cases h
    · cases h
  · cases h; rfl
theorem hiO_lo {lo : Option Int} {m a : Nat} (h : hiO lo m 0 = some a) : loOf lo m = .ok a := by
  unfold hiO at h
  split at h
  · split at h
    · split at h
      · rename_i h1; cases h; simp only [loOf, upto, h1]
      · cases h
    · cases h
  · cases h; rfl
theorem sliceS_some {t e : TypeId} {i ie : TI} {x : AV} {lo hi mx : Option Int} {lo' hi' mx' : Option AV} {K : AV → Option β} (ht : ti T t = .ok i) (hu : i.und = .slice e) (he : ti T e = .ok ie)
    (hl : optInt lo' = .ok lo) (hh : optInt hi' = .ok hi) (hm : optInt mx' = .ok mx) (h : sliceS ie.size x lo hi mx K = some r) : ∃ v, sliceV T t x lo' hi' mx' = .ok v ∧ K v = some r := by
  obtain ⟨v, eo, h⟩ := bindO_some h
  refine ⟨v, ?_, h⟩
  clear h
  unfold sliceO at eo
  split at eo
  · split at eo
    · rename_i m h3
      split at eo
      · rename_i a h1
        split at eo
        · rename_i b h2
          cases eo
          simp only [sliceV, hl, hh, hm, ok_bind, ht, hu, he, hiO_hi h3, hiO_hi h1, hiO_lo h2, pure_eq]
        · cases eo
      · cases eo
    · cases eo
  · split at eo
    · rename_i m h3
      split at eo
      · rename_i a h1
        split at eo
        · rename_i b h2
          cases eo
          simp only [sliceV, hl, hh, hm, ok_bind, ht, hu, he, hiO_hi h3, hiO_hi h1, hiO_lo h2, pure_eq]
        · cases eo
      · cases eo
    · cases eo
  · split at eo
    · rename_i h0
      split at eo
      · rename_i m h3
        split at eo
        · rename_i a h1
          split at eo
          · rename_i b h2
            split at eo
            · rename_i h4
              cases eo
              simp only [sliceV, hl, hh, hm, ok_bind, ht, hu, he, h0, hiO_hi h1, hiO_lo h2, hiO_hi h3, h4, pure_eq]
            · cases eo
          · cases eo
        · cases eo
      · cases eo
    · cases eo
  · rename_i sz es pm
    split at eo
    · rename_i h0
      split at eo
      · rename_i a h1
        split at eo
        · rename_i b h2
          have key : (match a.beq es.length, pm with
            | true, .shut => (pure (.sl sz (es.drop b) .shut) : Res AV)
            | true, .own k => match b.beq 0 with
              | true => pure (.sl sz es (.own k))
              | false => pure (.sl sz (es.drop b) .wide)
            | _, _ => pure (.sl sz ((es.take a).drop b) .wide)) = .ok v := by
            revert eo
            cases a.beq es.length <;> cases pm <;> cases b.beq 0 <;> intro eo <;> cases eo <;> rfl
          simp only [sliceV, hl, hh, hm, ok_bind, ht, hu, he, h0, hiO_hi h1, hiO_lo h2]
          exact key
        · cases eo
      · cases eo
    · cases eo
  · split at eo
    · rename_i h0
      split at eo
      · rename_i m h3
        split at eo
        · rename_i a h1
          split at eo
          · rename_i b h2
            cases eo
            have h3 : hiOf (some _) _ 0 = .ok m := hiO_hi h3
            simp only [hiOf] at h3
            simp only [sliceV, hl, hh, hm, ok_bind, ht, hu, he, h0, hiO_hi h1, hiO_lo h2, h3]
            rfl
          · cases eo
        · cases eo
      · cases eo
    · cases eo
  · cases eo
theorem nilS_some {t : TypeId} {i : TI} {x y : AV} {K : Bool → Option β} (hi : ti T t = .ok i) (h : nilS i.und x y K = some r) : ∃ b, eqT T 20 t x y = .ok b ∧ K b = some r := by
  obtain ⟨b, e, h⟩ := bindO_some h
  refine ⟨b, ?_, h⟩
  clear h
  unfold nilO at e
  split at e <;> first | (cases e; done) | skip
  all_goals
    rename_i hu
    cases e
    show (do let i ← ti T t; _) = _
    rw [hi, ok_bind]
    simp only [hu]
theorem eqT_nil {t : TypeId} {i : TI} {x y : AV} {b : Bool} (hi : ti T t = .ok i) (e : eqT T 20 t x y = .ok b) (hk : isNilKind i.und = true) : (∀ k n, x ≠ .int k n) ∧ (∀ s, x ≠ .str s) := by
  have e : (do let i ← ti T t; _) = _ := e
  rw [hi, ok_bind] at e
  constructor
  · rintro k n rfl
    cases hu : i.und <;> simp [hu, isNilKind] at hk e
  · rintro s rfl
    cases hu : i.und <;> simp [hu, isNilKind] at hk e
theorem nil_eql {t : TypeId} {i : TI} {x y : AV} {b : Bool} (hi : ti T t = .ok i) (e : eqT T 20 t x y = .ok b) (hk : isNilKind i.und = true) : VM.binOp T .eql t x y = .ok (.bool b) := by
  obtain ⟨h1, h2⟩ := eqT_nil hi e hk
  cases x <;> first | (exact absurd rfl (h1 _ _)) | (exact absurd rfl (h2 _)) | (simp only [VM.binOp, e, ok_bind, pure_eq])
theorem nil_neq {t : TypeId} {i : TI} {x y : AV} {b : Bool} (hi : ti T t = .ok i) (e : eqT T 20 t x y = .ok b) (hk : isNilKind i.und = true) : VM.binOp T .neq t x y = .ok (.bool !b) := by
  obtain ⟨h1, h2⟩ := eqT_nil hi e hk
  cases x <;> first | (exact absurd rfl (h1 _ _)) | (exact absurd rfl (h2 _)) | (simp only [VM.binOp, e, ok_bind, pure_eq])
theorem binS_some {op : BinOp} {t : TypeId} {x y : AV} {K : AV → Option β} (h : binS T op t x y K = some r) : ∃ v, VM.binOp T op t x y = .ok v ∧ K v = some r := by
  obtain ⟨i, hi, h⟩ := tiS_some h
  split at h
  · obtain ⟨b, e, h⟩ := nilS_some hi h
    refine ⟨_, ?_, h⟩
    rw [nil_eql hi e ‹_›]
  · obtain ⟨b, e, h⟩ := nilS_some hi h
    refine ⟨_, ?_, h⟩
    rw [nil_neq hi e ‹_›]
  · split at h
    · obtain ⟨a, hx, h⟩ := asS_some h
      obtain ⟨b, hy, h⟩ := asS_some h
      obtain ⟨h1, h⟩ := chk_some h
      exact ⟨_, by simp only [hx, hy, VM.binOp, strOp, h1], h⟩
    · obtain ⟨a, hx, h⟩ := asI_some h
      obtain ⟨b, hy, h⟩ := asI_some h
      obtain ⟨h1, h⟩ := chk_some h
      have h1 : ¬ b = 0 := by simpa using h1
      exact ⟨_, by simp only [hx, hy, VM.binOp, intOp, if_true, if_neg h1], h⟩
    · obtain ⟨a, hx, h⟩ := asI_some h
      obtain ⟨b, hy, h⟩ := asI_some h
      obtain ⟨h1, h⟩ := chk_some h
      have h1 : ¬ b = 0 := by simpa using h1
      exact ⟨_, by simp only [hx, hy, VM.binOp, intOp, if_true, if_neg h1], h⟩
    · obtain ⟨a, hx, h⟩ := asI_some h
      obtain ⟨k', b, hy, h⟩ := anyI_some h
      obtain ⟨h1, h⟩ := chk_some h
      have h1 : ¬ b < 0 := by simpa using h1
      exact ⟨_, by simp only [hx, hy, VM.binOp, if_neg h1], h⟩
    · obtain ⟨a, hx, h⟩ := asI_some h
      obtain ⟨k', b, hy, h⟩ := anyI_some h
      obtain ⟨h1, h⟩ := chk_some h
      have h1 : ¬ b < 0 := by simpa using h1
      exact ⟨_, by simp only [hx, hy, VM.binOp, if_neg h1], h⟩
    · obtain ⟨v, e, h⟩ := bindO_some h
      exact ⟨v, toO_some e, h⟩
end
section
variable {β : Type} {r : β} {N : Nat} {p : PF} {fr : Fr} {E : Env} {st : St}
theorem appS_some {i : TI} {e : TypeId} {s : AV} {new new' : List AV} {K : Kv β} (hf : fits new = .ok new') (hz : (new'.all fun v => v.cells.length.beq i.size) = true) (h : appS i.size i.bytes e s new' st K = some r) :
    ∃ v x, PlanTo E st (appendP i e s new) v x ∧ K v (x.did.app st) x = some r := by
  obtain ⟨u, st', x, eo, h⟩ := outS_some h
  cases new with
  | nil =>
    cases hf
    simp only [appO] at eo
    split at eo
    · cases eo; exact ⟨_, q0, Evt.always fun _ => by simp only [appendP, pure_eq, ok_bind, runPlan]; rfl, h⟩
    · cases eo; exact ⟨_, q0, Evt.always fun _ => by simp only [appendP, pure_eq, ok_bind, runPlan]; rfl, h⟩
    · cases eo; exact ⟨_, q0, Evt.always fun _ => by simp only [appendP, pure_eq, ok_bind, runPlan]; rfl, h⟩
    · cases eo
  | cons v l =>
    have hf' := hf
    simp only [fits, bind_ok, pure_ok] at hf'
    obtain ⟨v', _, l', _, rfl⟩ := hf'
    simp only [appO] at eo
    split at eo
    · split at eo
      · rename_i h1
        have h1 : roomOk (v' :: l').length i = true := h1
        obtain ⟨hp, rfl⟩ := madeO_some (E := E) eo
        refine ⟨u, x, PlanTo.of ?_ hp, h⟩
        simp only [appendP, hf, ok_bind, hz, h1, pure_eq]
      · cases eo
    · rename_i y es pm
      split at eo
      · rename_i h1
        have h1 : (roomOk (es.length + (v' :: l').length) i && y.beq i.size) = true := h1
        cases pm with
        | shut =>
          obtain ⟨hp, rfl⟩ := madeO_some (E := E) eo
          refine ⟨u, x, PlanTo.of ?_ hp, h⟩
          simp only [appendP, hf, ok_bind, hz, h1, pure_eq]
        | own k =>
          dsimp only at eo
          split at eo
          · rename_i n e' hg
            split at eo
            · rename_i h2
              obtain ⟨h3, rfl, rfl, rfl⟩ := wroteO_some eo
              refine ⟨_, ⟨[k], .wrote k _⟩, Evt.always fun _ => ?_, h⟩
              simp only [appendP, hf, ok_bind, hz, h1, pure_eq, runPlan, hg, h2, h3]
            · cases eo
          · cases eo
        | wide => cases eo
      · cases eo
    · split at eo
      · rename_i h1
        have h1 : roomOk (v' :: l').length i = true := h1
        obtain ⟨hp, rfl⟩ := madeO_some (E := E) eo
        refine ⟨u, x, PlanTo.of ?_ hp, h⟩
        simp only [appendP, hf, ok_bind, hz, h1, pure_eq]
      · cases eo
    · cases eo
def plO (S : Sx) (fr : Fr) (o : Op) : Res Plan := plan S.T S.prim S.imm S.G fr o
theorem semS_ok {S : Sx} (hO : OOk E S.O) {o : Op} {K : Kv β} (h : semS S o p st K = some r) (hs : Sub N p fr) : ∃ v x, PlanTo E st (plO S fr o) v x ∧ K v (x.did.app st) x = some r := by
  have val : ∀ {w : AV}, plO S fr o = .ok (.val w) → K w st q0 = some r → ∃ v x, PlanTo E st (plO S fr o) v x ∧ K v (x.did.app st) x = some r := fun {w} e h => ⟨w, q0, PlanTo.of e.symm (Evt.always fun _ => rfl), h⟩
  have by_ : ∀ {q : Res Plan}, plO S fr o = q → planS S.O q st K = some r → ∃ v x, PlanTo E st (plO S fr o) v x ∧ K v (x.did.app st) x = some r := fun {q} e h => by
    obtain ⟨v, x, hp, h⟩ := planS_some hO h
    exact ⟨v, x, PlanTo.of e.symm hp, h⟩
  have new_ : ∀ {ob : Obj} {f : Nat → AV}, plO S fr o = .ok (.new ob f) → made st ob f K = some r → ∃ v x, PlanTo E st (plO S fr o) v x ∧ K v (x.did.app st) x = some r := fun {ob f} e h => by
    obtain ⟨v, x, hp, h⟩ := made_some (E := E) h
    exact ⟨v, x, PlanTo.of e.symm hp, h⟩
  unfold semS at h
  split at h
  · obtain ⟨v, e, h⟩ := ev_some h hs
    exact val (by simp only [plO, plan, e, ok_bind, pure_eq]) h
  · obtain ⟨v, e, h⟩ := ev_some h hs
    exact val (by simp only [plO, plan, e, ok_bind, pure_eq]) h
  · obtain ⟨c, e, h⟩ := ev_some h hs
    obtain ⟨b, rfl, h⟩ := asB_some h
    cases b with
    | true =>
      obtain ⟨v, e', h⟩ := ev_some h hs
      exact val (by simp only [plO, plan, e, e', ok_bind, pure_eq, VM.asBool]) h
    | false =>
      obtain ⟨v, e', h⟩ := ev_some h hs
      exact val (by simp only [plO, plan, e, e', ok_bind, pure_eq, VM.asBool]) h
  · obtain ⟨i, e, h⟩ := tiS_some h
    exact new_ (by simp only [plO, plan, e, ok_bind, pure_eq]) h
  · -- box
    obtain ⟨i, e, h⟩ := tiS_some h
    obtain ⟨v, e', h⟩ := ev_some h hs
    obtain ⟨h, _, _⟩ := cellsT_some h
    obtain ⟨h1, h⟩ := chk_some h
    obtain ⟨h2, h⟩ := onesS_some h
    split at h
    · rename_i hi
      obtain ⟨cs, h3, h⟩ := fitC_some h
      exact val (by simp only [plO, plan, e, e', ok_bind, pure_eq, boxP, h1, h2, Bool.and_self, hi, h3]) h
    · rename_i hi
      exact new_ (by simp only [plO, plan, e, e', ok_bind, boxP, h1, h2, Bool.and_self, hi]) h
  · -- build
    obtain ⟨i, e, h⟩ := tiS_some h
    split at h
    · rename_i fs hu
      obtain ⟨vs, h1, h⟩ := evc_some h hs
      obtain ⟨sz, h2, h⟩ := sizesS_some h
      obtain ⟨cs, h3, h⟩ := fillC_some h
      exact val (by simp only [plO, plan, build, e, hu, h1, h2, h3, ok_bind, pure_eq]) h
    · rename_i ee hu
      obtain ⟨vs, h1, h⟩ := evc_some h hs
      obtain ⟨ie, h2, h⟩ := tiS_some h
      obtain ⟨cs, h3, h⟩ := fillC_some h
      exact val (by simp only [plO, plan, build, e, hu, h1, h2, h3, ok_bind, pure_eq]) h
    · cases h
  · -- buildSlice
    obtain ⟨i, e, h⟩ := tiS_some h
    split at h
    · rename_i ee hu
      obtain ⟨ie, h2, h⟩ := tiS_some h
      obtain ⟨vs, h1, h⟩ := evc_some h hs
      obtain ⟨h4, h⟩ := chk_some h
      obtain ⟨cs, h3, h⟩ := fillC_some h
      obtain ⟨h5, h⟩ := onesS_some h
      split at h
      · rename_i h6
        exact val (by simp only [plO, plan, buildSlice, e, hu, h1, h2, h3, h4, h5, h6, ok_bind, pure_eq]) h
      · rename_i h8
        split at h
        · rename_i gs h6
          obtain ⟨gs', h7, h⟩ := fitTs_some h
          exact val (by simp only [plO, plan, buildSlice, e, hu, h1, h2, h3, h4, h5, h6, h7, h8, ok_bind, pure_eq]) h
        · cases h
    · cases h
  · -- makeSlice
    obtain ⟨l, e, h⟩ := ev_some h hs
    obtain ⟨c, e', h⟩ := ev_some h hs
    exact by_ (by simp only [plO, plan, e, e', ok_bind]) h
  · -- load
    obtain ⟨i, e, h⟩ := tiS_some h
    obtain ⟨a, e', h⟩ := ev_some h hs
    obtain ⟨v, x, hp, h⟩ := loadS_some (E := E) h
    exact ⟨v, x, PlanTo.of (by simp only [plO, plan, e, e', ok_bind]) hp, h⟩
  · -- store
    obtain ⟨i, e, h⟩ := tiS_some h
    obtain ⟨a, e1, h⟩ := ev_some h hs
    obtain ⟨v, e2, h⟩ := ev_some h hs
    obtain ⟨h, _, _⟩ := cellsT_some h
    obtain ⟨h2, h⟩ := onesS_some h
    obtain ⟨u, x, hp, h⟩ := storeS_some hO h2 h
    refine ⟨u, x, PlanTo.of ?_ hp, h⟩
    simp only [plO, plan, e, e1, e2, ok_bind]
    cases a <;> rfl
  · -- nilCheck
    obtain ⟨a, e1, h⟩ := ev_some h hs
    obtain ⟨hn, h⟩ := chk_some h
    refine val ?_ h
    unfold notNil at hn
    split at hn
    · simp only [plO, plan, e1, ok_bind, pure_eq]
    · simp only [plO, plan, e1, ok_bind, pure_eq]
    · simp only [plO, plan, e1, ok_bind, pure_eq]
    · simp only [plO, plan, e1, ok_bind, pure_eq]
    · cases hn
  · -- binOp
    obtain ⟨a, e1, h⟩ := ev_some h hs
    obtain ⟨b, e2, h⟩ := ev_some h hs
    split at h
    · rename_i hc
      obtain ⟨v, e3, h⟩ := bindO_some h
      have e3 : nifO _ a = some v := e3
      exact val (by simp only [plO, plan, binOpN, hc, e1, e2, e3, ok_bind, pure_eq]) h
    · rename_i hc
      obtain ⟨v, e3, h⟩ := binS_some h
      exact val (by simp only [plO, plan, binOpN, hc, e1, e2, e3, ok_bind, pure_eq]) h
  · -- unOp
    obtain ⟨a, e1, h⟩ := ev_some h hs
    obtain ⟨v, e2, h⟩ := bindO_some h
    exact val (by simp only [plO, plan, e1, toO_some e2, ok_bind, pure_eq]) h
  · -- convert
    obtain ⟨a, e1, h⟩ := ev_some h hs
    exact by_ (by simp only [plO, plan, e1, ok_bind]) h
  · -- makeInterface
    obtain ⟨i, e, h⟩ := tiS_some h
    split at h
    · cases h
    · cases h
    · rename_i h1 h2
      obtain ⟨a, e1, h⟩ := ev_some h hs
      refine val ?_ h
      simp only [plO, plan, e, e1, ok_bind, pure_eq]
  · -- makeFunc
    obtain ⟨a, e1, h⟩ := evs_some h hs
    obtain ⟨c, e2, h⟩ := evs_some h hs
    exact val (by simp only [plO, plan, e1, e2, ok_bind, pure_eq]) h
  · -- makeMap
    exact new_ (by simp only [plO, plan]) h
  · -- slice
    rename_i t x lo hi mx
    split at h
    · cases h
    · obtain ⟨i, e, h⟩ := tiS_some h
      obtain ⟨x', e1, h⟩ := ev_some h hs
      obtain ⟨lo', lo'', e2, e2', h⟩ := evi_some h hs
      obtain ⟨hi', hi'', e3, e3', h⟩ := evi_some h hs
      obtain ⟨mx', mx'', e4, e4', h⟩ := evi_some h hs
      split at h
      · rename_i hu
        obtain ⟨s, rfl, h⟩ := asS_some h
        split at h
        · obtain ⟨a, h1, h⟩ := hiS_some h
          obtain ⟨b, h2, h⟩ := loS_some h
          refine val ?_ h
          simp only [plO, plan, e1, e2, e3, e4, ok_bind, sliceV, e2', e3', e4', e, hu, h1, h2, pure_eq]
        · cases h
      · rename_i ee hu
        obtain ⟨ie, he, h⟩ := tiS_some h
        obtain ⟨v, h1, h⟩ := sliceS_some e hu he e2' e3' e4' h
        refine val ?_ h
        simp only [plO, plan, e1, e2, e3, e4, ok_bind, h1, pure_eq]
      · cases h
  · -- fieldAddr
    obtain ⟨i, e, h⟩ := tiS_some h
    split at h
    · rename_i fs hu
      split at h
      · rename_i off ft hf
        obtain ⟨fi, e1, h⟩ := tiS_some h
        split at h
        · cases h
        · rename_i hz
          obtain ⟨a, e2, h⟩ := ev_some h hs
          rcases fldA_some h with ⟨cs, rfl, h⟩ | ⟨id, o, rfl, h⟩ | ⟨id, m, o, rfl, h⟩
          · exact val (by simp only [plO, plan, fieldAddr, e, e2, hu, hf, e1, hz, ok_bind, pure_eq]) h
          · exact val (by simp only [plO, plan, fieldAddr, e, e2, hu, hf, e1, hz, ok_bind, pure_eq]) h
          · exact val (by simp only [plO, plan, fieldAddr, e, e2, hu, hf, e1, hz, ok_bind, pure_eq]) h
      · cases h
    · cases h
  · -- field
    obtain ⟨a, e1, h⟩ := ev_some h hs
    obtain ⟨v, e2, h⟩ := bindO_some h
    exact val (by simp only [plO, plan, e1, toO_some e2, ok_bind, pure_eq]) h
  · -- indexAddr
    obtain ⟨i, e, h⟩ := tiS_some h
    obtain ⟨x, e1, h⟩ := ev_some h hs
    obtain ⟨j, e2, h⟩ := ev_some h hs
    obtain ⟨k, n, rfl, h⟩ := anyI_some h
    split at h
    · rename_i ee hu
      obtain ⟨ie, he, h⟩ := tiS_some h
      obtain ⟨v, x', hp, h⟩ := idxA_some (E := E) (k := k) e hu he h
      refine ⟨v, x', PlanTo.of ?_ hp, h⟩
      simp only [plO, plan, e1, e2, ok_bind]
      cases x <;> rfl
    · rename_i len ee hu
      obtain ⟨ie, he, h⟩ := tiS_some h
      obtain ⟨v, x', hp, h⟩ := idxR_some (E := E) (k := k) e hu he h
      refine ⟨v, x', PlanTo.of ?_ hp, h⟩
      simp only [plO, plan, e1, e2, ok_bind]
      cases x <;> rfl
    · cases h
  · -- index
    obtain ⟨i, e, h⟩ := tiS_some h
    obtain ⟨x, e1, h⟩ := ev_some h hs
    obtain ⟨j, e2, h⟩ := ev_some h hs
    split at h
    · rename_i hu
      obtain ⟨s, rfl, h⟩ := asS_some h
      obtain ⟨k, n, rfl, h⟩ := anyI_some h
      obtain ⟨m, h1, h⟩ := insideS_some h
      split at h
      · rename_i b h2
        exact val (by simp only [plO, plan, e1, e2, ok_bind, indexV, VM.asInt, e, hu, h1, h2, pure_eq]) h
      · cases h
    · obtain ⟨v, e3, h⟩ := bindO_some h
      exact val (by simp only [plO, plan, e1, e2, toO_some e3, ok_bind, pure_eq]) h
  · -- lookup
    obtain ⟨x, e1, h⟩ := ev_some h hs
    obtain ⟨j, e2, h⟩ := ev_some h hs
    exact by_ (by simp only [plO, plan, e1, e2, ok_bind]) h
  · obtain ⟨x, e1, h⟩ := ev_some h hs
    obtain ⟨j, e2, h⟩ := ev_some h hs
    obtain ⟨v, e3, h⟩ := ev_some h hs
    exact by_ (by simp only [plO, plan, e1, e2, e3, ok_bind]) h
  · obtain ⟨x, e1, h⟩ := ev_some h hs
    obtain ⟨j, e2, h⟩ := ev_some h hs
    obtain ⟨v, e3, h⟩ := ev_some h hs
    exact by_ (by simp only [plO, plan, e1, e2, e3, ok_bind]) h
  · -- range
    obtain ⟨x, e1, h⟩ := ev_some h hs
    obtain ⟨i, e, h⟩ := tiS_some h
    split at h
    · rename_i hu
      obtain ⟨s, hx, h'⟩ := asS_some h
      exact new_ (by simp only [plO, plan, e, e1, ok_bind, hu, hx, pure_eq]) h' 
    · cases h
  · -- next
    obtain ⟨x, e1, h⟩ := ev_some h hs
    exact by_ (by simp only [plO, plan, e1, ok_bind]) h
  · -- extract
    obtain ⟨x, e1, h⟩ := ev_some h hs
    obtain ⟨vs, rfl, h⟩ := unT_some h
    obtain ⟨v, e2, h⟩ := nthS_some h
    exact val (by simp only [plO, plan, e1, ok_bind, nthAV_of e2, pure_eq]) h
  · -- call
    rename_i c
    obtain ⟨args, e1, h⟩ := evs_some h hs
    split at h
    · rename_i b hc
      have e2 : plO S fr (.call c) = builtinP S.T S.imm b c.argTypes.toList args := by simp only [plO, plan, e1, ok_bind, hc]
      split at h
      · rename_i x t ts x' ea et
        obtain ⟨i, e, h⟩ := tiS_some h
        split at h
        · rename_i hu
          obtain ⟨s, rfl, h⟩ := asS_some h
          exact val (by simp only [e2, et, builtinP, lenP, e, ok_bind, hu, pure_eq]) h
        · rename_i ee hu
          obtain ⟨n, eo, h⟩ := bindO_some h
          refine val ?_ h
          unfold lenO at eo
          split at eo
          · cases eo; simp only [e2, et, builtinP, lenP, e, ok_bind, hu, pure_eq]; rfl
          · cases eo; simp only [e2, et, builtinP, lenP, e, ok_bind, hu, pure_eq]
          · cases eo; simp only [e2, et, builtinP, lenP, e, ok_bind, hu, pure_eq]
          · cases eo; simp only [e2, et, builtinP, lenP, e, ok_bind, hu, pure_eq]
          · cases eo; simp only [e2, et, builtinP, lenP, e, ok_bind, hu, pure_eq]; rfl
          · cases eo
        · exact by_ (by simp only [e2, et, builtinP]) h
      · rename_i t xt s x et
        obtain ⟨i, e, h⟩ := tiS_some h
        obtain ⟨xi, e', h⟩ := tiS_some h
        split at h
        · rename_i ee hu hn
          obtain ⟨ie, he, h⟩ := tiS_some h
          split at h
          · rename_i him
            unfold elemsS at h
            split at h
            · rename_i new hnew
              exact by_ (by simp only [e2, et, builtinP, e, e', ok_bind, hu, hn, he, hnew, him]) h
            · cases h
          split at h
          · rename_i him _ him2
            unfold elemsS at h
            split at h
            · rename_i new hnew
              exact by_ (by simp only [e2, et, builtinP, e, e', ok_bind, hu, hn, he, hnew, him, him2]) h
            · cases h
          split at h
          · rename_i him _ him2 _ him3
            refine by_ ?_ h
            unfold rowAnyP
            cases hnew : elemsV x with
            | some new =>
              simp only [e2, et, builtinP, e, e', ok_bind, hu, hn, he, hnew]
              rw [him, him2, him3]
            | none =>
              simp only [e2, et, builtinP, e, e', ok_bind, hu, hn, he, hnew, him3]
              cases x <;> rfl
          · rename_i him _ him2 _ him3
            unfold elemsS at h
            split at h
            · rename_i new hnew
              obtain ⟨new', h1, h⟩ := fitTs_some h
              obtain ⟨h2, h⟩ := chk_some h
              obtain ⟨v, x', hp, h⟩ := appS_some (E := E) h1 h2 h
              refine ⟨v, x', PlanTo.of ?_ hp, h⟩
              simp only [e2, et, builtinP, e, e', ok_bind, hu, hn, he, hnew, him, him2, him3]
            · cases h
        · cases h
      · exact by_ e2 h
    · rename_i f hc
      obtain ⟨g, e2, h⟩ := ev_some h hs
      obtain ⟨v, st', x, eo, h⟩ := outS_some h
      obtain ⟨hp, rfl⟩ := planO_some hO eo
      refine ⟨v, x, PlanTo.of ?_ hp, h⟩
      simp only [plO, plan, e1, e2, ok_bind, hc, callP, pure_eq]
      cases g <;> first | rfl | (rename_i f _ _; cases f <;> rfl)
    · cases h
  · cases h
end
section frame
variable {X : Cx}
theorem put_other {fr : Fr} {d : Option Nat} {v : AV} {i : Nat} (h : d ≠ some i) : (fr.put d v).look i = fr.look i := by
  cases d with
  | none => rfl
  | some d =>
    by_cases hd : d < fr.n
    · rw [look_put hd, if_neg fun e => h (by rw [e])]
    · have hb : d.blt fr.n = false := blt_false.2 (by omega)
      have e : fr.put (some d) v = fr := by simp only [Fr.put, hb]
      rw [e]
theorem elemN_iff {n : Nat} : ∀ {l : List Nat}, elemN n l = true ↔ n ∈ l
  | [] => by simp [elemN]
  | m :: l => by simp [elemN, elemN_iff (l := l)]
theorem opsFrom_frame {all : List Oper} {draw : Bool} : ∀ {l : List Oper} {j : Nat} {seen : List (Nat × Fx)} {fr fr' : Fr} {st st' : St}, opsFrom X all draw j seen l fr st = .ok (fr', st') →
    fr'.n = fr.n ∧ ∀ i, i ∉ operWrites l → fr'.look i = fr.look i
  | [], _, _, _, _, _, _, h => by simp only [opsFrom, Except.ok.injEq, Prod.mk.injEq] at h; obtain ⟨rfl, rfl⟩ := h; exact ⟨rfl, fun _ _ => rfl⟩
  | o :: l, j, seen, fr, fr', st, st', h => by
    simp only [opsFrom, bind_ok] at h
    obtain ⟨⟨v, x⟩, _, h⟩ := h
    have key : fr'.n = (fr.put o.dst v).n ∧ ∀ i, i ∉ operWrites l → fr'.look i = (fr.put o.dst v).look i := by
      dsimp only at h
      split at h
      · exact opsFrom_frame h
      · split at h
        · exact opsFrom_frame h
        · cases h
    refine ⟨key.1.trans (Fr.put_n _ _ _), fun i hi => ?_⟩
    have h1 : i ∉ operWrites l ∧ o.dst ≠ some i := by
      cases hd : o.dst with
      | none => simp [operWrites, hd] at hi; exact ⟨hi, by simp⟩
      | some d =>
        simp [operWrites, hd] at hi
        exact ⟨hi.2, fun e => hi.1 (by cases e; rfl)⟩
    rw [key.2 i h1.1, put_other h1.2]
theorem opsFromE_frame {e : Nat → Option Nat} {all : List Oper} : ∀ {l : List Oper} {j : Nat} {seen : List (Nat × Fx)} {fr fr' : Fr} {st st' : St}, opsFromE X e all j seen l fr st = .ok (fr', st') →
    fr'.n = fr.n ∧ ∀ i, i ∉ operWrites l → fr'.look i = fr.look i
  | [], _, _, _, _, _, _, h => by simp only [opsFromE, Except.ok.injEq, Prod.mk.injEq] at h; obtain ⟨rfl, rfl⟩ := h; exact ⟨rfl, fun _ _ => rfl⟩
  | o :: l, j, seen, fr, fr', st, st', h => by
    simp only [opsFromE, bind_ok] at h
    obtain ⟨⟨v, x⟩, _, h⟩ := h
    have key : fr'.n = (fr.put o.dst v).n ∧ ∀ i, i ∉ operWrites l → fr'.look i = (fr.put o.dst v).look i := by
      dsimp only at h
      split at h
      · exact opsFromE_frame h
      · split at h
        · exact opsFromE_frame h
        · cases h
    refine ⟨key.1.trans (Fr.put_n _ _ _), fun i hi => ?_⟩
    have h1 : i ∉ operWrites l ∧ o.dst ≠ some i := by
      cases hd : o.dst with
      | none => simp [operWrites, hd] at hi; exact ⟨hi, by simp⟩
      | some d =>
        simp [operWrites, hd] at hi
        exact ⟨hi.2, fun e => hi.1 (by cases e; rfl)⟩
    rw [key.2 i h1.1, put_other h1.2]
theorem iter_frame {body : Fr → St → Res (Ex × Fr × St)} {W : List Nat} (hb : ∀ fr st ex fr' st', body fr st = .ok (ex, fr', st') → fr'.n = fr.n ∧ ∀ i, i ∉ W → fr'.look i = fr.look i) :
    ∀ (n : Nat) {fr fr' : Fr} {st st' : St} {ex : Ex}, iter body n fr st = .ok (ex, fr', st') → fr'.n = fr.n ∧ ∀ i, i ∉ W → fr'.look i = fr.look i
  | 0, _, _, _, _, _, h => by simp [iter] at h
  | n + 1, fr, fr', st, st', ex, h => by
    simp only [iter, bind_ok] at h
    obtain ⟨⟨ex1, fr1, st1⟩, h1, h2⟩ := h
    have k1 := hb _ _ _ _ _ h1
    cases ex1 with
    | normal =>
      have k2 := iter_frame hb n h2
      exact ⟨k2.1.trans k1.1, fun i hi => (k2.2 i hi).trans (k1.2 i hi)⟩
    | exit id =>
      simp only [pure_ok, Prod.mk.injEq] at h2
      obtain ⟨_, rfl, _⟩ := h2
      exact k1
    | ret =>
      simp only [pure_ok, Prod.mk.injEq] at h2
      obtain ⟨_, rfl, _⟩ := h2
      exact k1
theorem rangeF_frame {n : Nat} {x : Operand} {ps : Array Tmp} {y c : Code} {fr fr' : Fr} {st st' : St} {ex : Ex} (h : exec X n (.rangeFunc x ps y c) fr st = .ok (ex, fr', st')) : fr' = fr := by
  simp only [exec] at h
  split at h
  · cases h
  · simp only [bind_ok] at h
    obtain ⟨fv, h1, h⟩ := h
    split at h
    · simp only [bind_ok] at h
      obtain ⟨q, h2, o, h3, h4⟩ := h
      split at h4
      · split at h4
        · simp only [pure_ok, Prod.mk.injEq] at h4
          exact h4.2.1.symm
        · cases h4
      · cases h4
    · cases h
theorem opsFrom_strict {all : List Oper} {draw : Bool} : ∀ {l : List Oper} {j : Nat} {seen : List (Nat × Fx)} {fr fr' : Fr} {st st' : St}, opsFrom X all draw j seen l fr st = .ok (fr', st') → fr'.strict = fr.strict
  | [], _, _, _, _, _, _, h => by simp only [opsFrom, Except.ok.injEq, Prod.mk.injEq] at h; rw [h.1]
  | o :: l, j, seen, fr, fr', st, st', h => by
    simp only [opsFrom, bind_ok] at h
    obtain ⟨⟨v, x⟩, _, h⟩ := h
    have key : fr'.strict = (fr.put o.dst v).strict := by
      dsimp only at h
      split at h
      · exact opsFrom_strict h
      · split at h
        · exact opsFrom_strict h
        · cases h
    exact key.trans (put_strict _ _ _)
theorem opsFromE_strict {e : Nat → Option Nat} {all : List Oper} : ∀ {l : List Oper} {j : Nat} {seen : List (Nat × Fx)} {fr fr' : Fr} {st st' : St}, opsFromE X e all j seen l fr st = .ok (fr', st') → fr'.strict = fr.strict
  | [], _, _, _, _, _, _, h => by simp only [opsFromE, Except.ok.injEq, Prod.mk.injEq] at h; rw [h.1]
  | o :: l, j, seen, fr, fr', st, st', h => by
    simp only [opsFromE, bind_ok] at h
    obtain ⟨⟨v, x⟩, _, h⟩ := h
    have key : fr'.strict = (fr.put o.dst v).strict := by
      dsimp only at h
      split at h
      · exact opsFromE_strict h
      · split at h
        · exact opsFromE_strict h
        · cases h
    exact key.trans (put_strict _ _ _)
theorem iter_strict {body : Fr → St → Res (Ex × Fr × St)} (hb : ∀ fr st ex fr' st', body fr st = .ok (ex, fr', st') → fr'.strict = fr.strict) : ∀ (n : Nat) {fr fr' : Fr} {st st' : St} {ex : Ex}, iter body n fr st = .ok (ex, fr', st') → fr'.strict = fr.strict
  | 0, _, _, _, _, _, h => by simp [iter] at h
  | n + 1, fr, fr', st, st', ex, h => by
    simp only [iter, bind_ok] at h
    obtain ⟨⟨ex1, fr1, st1⟩, h1, h2⟩ := h
    have k1 := hb _ _ _ _ _ h1
    cases ex1 with
    | normal => exact (iter_strict hb n h2).trans k1
    | exit id =>
      simp only [pure_ok, Prod.mk.injEq] at h2
      rw [← h2.2.1]; exact k1
    | ret =>
      simp only [pure_ok, Prod.mk.injEq] at h2
      rw [← h2.2.1]; exact k1
theorem exec_strict {n : Nat} : ∀ (c : Code) {fr fr' : Fr} {st st' : St} {ex : Ex}, exec X n c fr st = .ok (ex, fr', st') → fr'.strict = fr.strict
  | .skip, _, _, _, _, _, h | .label _, _, _, _, _, _, h | .exit _, _, _, _, _, _, h | .ret, _, _, _, _, _, h => by
    simp only [exec, Except.ok.injEq, Prod.mk.injEq] at h; rw [h.2.1]
  | .goto _, _, _, _, _, _, h | .refuse _, _, _, _, _, _, h => by simp [exec] at h
  | .rangeFunc .., _, _, _, _, _, h => by rw [rangeF_frame h]
  | .scope c, _, _, _, _, _, h => exec_strict c h
  | .region _ _ _, _, _, _, _, _, h => by
    simp only [exec] at h
    split at h <;> simp only [bind_ok, pure_ok] at h <;> obtain ⟨⟨fr1, st1⟩, h1, h2⟩ := h <;> simp only [Prod.mk.injEq] at h2 <;> obtain ⟨_, rfl, _⟩ := h2
    · exact opsFrom_strict h1
    · exact opsFromE_strict h1
  | .seq a b, _, _, _, _, _, h => by
    simp only [exec, bind_ok] at h
    obtain ⟨⟨ex1, fr1, st1⟩, h1, h2⟩ := h
    have k1 := exec_strict a h1
    cases ex1 with
    | normal => exact (exec_strict b h2).trans k1
    | exit id => simp only [pure_ok, Prod.mk.injEq] at h2; rw [← h2.2.1]; exact k1
    | ret => simp only [pure_ok, Prod.mk.injEq] at h2; rw [← h2.2.1]; exact k1
  | .cond c a b, _, _, _, _, _, h => by
    simp only [exec, bind_ok] at h
    obtain ⟨cv, _, v, _, h3⟩ := h
    cases v
    · exact exec_strict b h3
    · exact exec_strict a h3
  | .block id c, _, _, _, _, _, h => by
    simp only [exec, bind_ok] at h
    obtain ⟨⟨ex1, fr1, st1⟩, h1, h2⟩ := h
    have k1 := exec_strict c h1
    cases ex1 with
    | normal => simp only [pure_ok, Prod.mk.injEq] at h2; rw [← h2.2.1]; exact k1
    | ret => simp only [pure_ok, Prod.mk.injEq] at h2; rw [← h2.2.1]; exact k1
    | exit i =>
      dsimp only at h2
      split at h2 <;> (simp only [pure_ok, Prod.mk.injEq] at h2; rw [← h2.2.1]; exact k1)
  | .loop c, _, _, _, _, _, h => by
    simp only [exec] at h
    exact iter_strict (fun _ _ _ _ _ h => exec_strict c h) n h
theorem exec_frame {n : Nat} : ∀ (c : Code) {fr fr' : Fr} {st st' : St} {ex : Ex}, exec X n c fr st = .ok (ex, fr', st') → fr'.n = fr.n ∧ ∀ i, i ∉ writes c → fr'.look i = fr.look i
  | .skip, _, _, _, _, _, h | .label _, _, _, _, _, _, h | .exit _, _, _, _, _, _, h | .ret, _, _, _, _, _, h => by
    simp only [exec, Except.ok.injEq, Prod.mk.injEq] at h; obtain ⟨_, rfl, _⟩ := h; exact ⟨rfl, fun _ _ => rfl⟩
  | .goto _, _, _, _, _, _, h | .refuse _, _, _, _, _, _, h => by simp [exec] at h
  | .rangeFunc .., _, _, _, _, _, h => by
    obtain rfl := rangeF_frame h
    exact ⟨rfl, fun _ _ => rfl⟩
  | .scope c, _, _, _, _, _, h => exec_frame c h
  | .region _ _ _, _, _, _, _, _, h => by
    simp only [exec] at h
    split at h
    · simp only [bind_ok, pure_ok] at h
      obtain ⟨⟨fr1, st1⟩, h1, h2⟩ := h
      simp only [Prod.mk.injEq] at h2
      obtain ⟨_, rfl, _⟩ := h2
      exact opsFrom_frame h1
    · simp only [bind_ok, pure_ok] at h
      obtain ⟨⟨fr1, st1⟩, h1, h2⟩ := h
      simp only [Prod.mk.injEq] at h2
      obtain ⟨_, rfl, _⟩ := h2
      exact opsFromE_frame h1
  | .seq a b, _, _, _, _, _, h => by
    simp only [exec, bind_ok] at h
    obtain ⟨⟨ex1, fr1, st1⟩, h1, h2⟩ := h
    have k1 := exec_frame a h1
    cases ex1 with
    | normal =>
      have k2 := exec_frame b h2
      exact ⟨k2.1.trans k1.1, fun i hi => by
        simp only [writes, List.mem_append, not_or] at hi
        exact (k2.2 i hi.2).trans (k1.2 i hi.1)⟩
    | exit id =>
      simp only [pure_ok, Prod.mk.injEq] at h2
      obtain ⟨_, rfl, _⟩ := h2
      exact ⟨k1.1, fun i hi => k1.2 i fun hm => hi (List.mem_append.2 (.inl hm))⟩
    | ret =>
      simp only [pure_ok, Prod.mk.injEq] at h2
      obtain ⟨_, rfl, _⟩ := h2
      exact ⟨k1.1, fun i hi => k1.2 i fun hm => hi (List.mem_append.2 (.inl hm))⟩
  | .cond c a b, _, _, _, _, _, h => by
    simp only [exec, bind_ok] at h
    obtain ⟨cv, _, v, _, h3⟩ := h
    cases v
    · have k := exec_frame b h3
      exact ⟨k.1, fun i hi => k.2 i fun hm => hi (List.mem_append.2 (.inr hm))⟩
    · have k := exec_frame a h3
      exact ⟨k.1, fun i hi => k.2 i fun hm => hi (List.mem_append.2 (.inl hm))⟩
  | .block id c, _, _, _, _, _, h => by
    simp only [exec, bind_ok] at h
    obtain ⟨⟨ex1, fr1, st1⟩, h1, h2⟩ := h
    have k1 := exec_frame c h1
    cases ex1 with
    | normal => simp only [pure_ok, Prod.mk.injEq] at h2; obtain ⟨_, rfl, _⟩ := h2; exact k1
    | ret => simp only [pure_ok, Prod.mk.injEq] at h2; obtain ⟨_, rfl, _⟩ := h2; exact k1
    | exit i =>
      dsimp only at h2
      split at h2 <;> (simp only [pure_ok, Prod.mk.injEq] at h2; obtain ⟨_, rfl, _⟩ := h2; exact k1)
  | .loop c, _, _, _, _, _, h => by
    simp only [exec] at h
    exact iter_frame (fun _ _ _ _ _ h => exec_frame c h) n h
end frame
section
variable {β : Type} {r : β} {N : Nat} {E : Env}
theorem Sub.put {p : PF} {fr : Fr} {d : Nat} {v : AV} (hs : Sub N p fr) (hd : d < N) : Sub N ((d, v) :: p) (fr.put (some d) v) := by
  refine ⟨(Fr.put_n _ _ _).trans hs.1, fun i u hu => ?_⟩
  rw [PF.get_cons] at hu
  rw [look_put (by rw [hs.1]; exact hd)]
  split at hu
  · rename_i e; rw [if_pos e]; cases hu; rfl
  · rename_i e; rw [if_neg e]; exact hs.2 i u hu
theorem Sub.know {p : PF} {fr : Fr} {d : Nat} {v : AV} (hs : Sub N p fr) (hd : fr.look d = some v) : Sub N ((d, v) :: p) fr := by
  refine ⟨hs.1, fun i u hu => ?_⟩
  rw [PF.get_cons] at hu
  split at hu
  · rename_i e; cases hu; rw [← e]; exact hd
  · exact hs.2 i u hu
theorem putS_some {d : Option Tmp} {v : AV} {p : PF} {fr : Fr} {K : PF → Option β} (h : putS N d v p K = some r) (hs : Sub N p fr) : ∃ p', Sub N p' (fr.put d v) ∧ K p' = some r := by
  cases d with
  | none => exact ⟨p, hs, h⟩
  | some d =>
    simp only [putS] at h
    split at h
    · rename_i hb
      exact ⟨_, hs.put (blt_true.1 hb), h⟩
    · cases h
theorem guardS_some {all : List Oper} {p : PF} {fr : Fr} {g : Option (Nat × Bool)} {yes no : PF → Option β} (h : guardS all p g yes no = some r) (hs : Sub N p fr) :
    (wanted all fr g = true ∧ ∃ p', Sub N p' fr ∧ yes p' = some r) ∨ (wanted all fr g = false ∧ ∃ p', Sub N p' fr ∧ no p' = some r) := by
  unfold guardS at h
  split at h
  · exact .inl ⟨rfl, p, hs, h⟩
  · rename_i j want
    split at h
    · rename_i d hd
      split at h
      · rename_i v hv
        have hk := hs.2 _ _ hv
        have hg := look_get hk
        split at h
        · rename_i b
          have hw : wanted all fr (some (j, want)) = (b == want) := by simp only [wanted, hd, hg]
          cases want <;> cases b
          · exact .inl ⟨by rw [hw]; rfl, _, hs.know hk, h⟩
          · exact .inr ⟨by rw [hw]; rfl, _, hs.know hk, h⟩
          · exact .inr ⟨by rw [hw]; rfl, _, hs.know hk, h⟩
          · exact .inl ⟨by rw [hw]; rfl, _, hs.know hk, h⟩
        · rename_i hno
          refine .inr ⟨?_, p, hs, h⟩
          simp only [wanted, hd, hg]
      · cases h
    · cases h
theorem orderS_some {ops : List Oper} {j : Nat} {x : Fx} : ∀ {seen : List (Nat × Fx)}, orderS ops j x seen = true → ∀ seen' : List (Nat × Fx), (∀ y ∈ seen', y ∈ seen) → orderly ops j x seen' = true
  | seen, h, [], _ => rfl
  | seen, h, (i, y) :: l, hsub => by
    have h1 : ∀ (s : List (Nat × Fx)), orderS ops j x s = true → (i, y) ∈ s → (behind ops (j + 1) j i || apart y x) = true := by
      intro s hs hm
      induction s with
      | nil => cases hm
      | cons a s ih =>
        obtain ⟨i', y'⟩ := a
        simp only [orderS, Bool.and_eq_true] at hs
        rcases List.mem_cons.1 hm with e | hm
        · cases e; exact hs.1
        · exact ih hs.2 hm
    simp only [orderly, Bool.and_eq_true]
    refine ⟨?_, orderS_some h l fun y hy => hsub y (List.mem_cons_of_mem _ hy)⟩
    rw [Bool.or_comm]
    exact h1 seen h (hsub _ (List.mem_cons_self ..))
def cx (S : Sx) (E : Env) (n : Nat) : Cx := ⟨S.T, S.prim, S.imm, S.G, caller E n⟩
theorem opsS_ok {S : Sx} (hO : OOk E S.O) {all : List Oper} {draw : Bool} : ∀ {l : List Oper} {j : Nat} {seen seen' : List (Nat × Fx)} {p : PF} {fr : Fr} {st : St} {K : PF → St → Option β},
    opsS S N all draw j seen l p st K = some r → Sub N p fr → (∀ y ∈ seen', y ∈ seen) → ∃ fr' st' p', (Evt fun n => opsFrom (cx S E n) all draw j seen' l fr st = .ok (fr', st')) ∧ Sub N p' fr' ∧ K p' st' = some r
  | [], _, _, _, p, fr, st, _, h, hs, _ => ⟨fr, st, p, Evt.always fun _ => rfl, hs, h⟩
  | o :: l, j, seen, seen', p, fr, st, K, h, hs, hsub => by
    simp only [opsS] at h
    rcases guardS_some h hs with ⟨hw, p1, hs1, h⟩ | ⟨hw, p1, hs1, h⟩
    · obtain ⟨v, x, hp, h⟩ := semS_ok hO h hs1
      have h := decT_some (K := fun v => match draw with
        | false => putS N o.dst v p1 fun p => opsS S N all draw (j + 1) seen l p (x.did.app st) K
        | true => chk (orderS all j x seen) (putS N o.dst v p1 fun p => opsS S N all draw (j + 1) ((j, x) :: seen) l p (x.did.app st) K)) h
      have hop : ∀ n, (plO S fr o.op >>= runPlan (caller E n) st) = .ok (v, x) → oper (cx S E n) all fr st o = .ok (v, x) := fun n e => by
        simp only [oper, hw]; exact e
      cases draw with
      | false =>
        obtain ⟨p2, hs2, h⟩ := putS_some h hs1
        obtain ⟨fr', st', p', hev, hs', hK⟩ := opsS_ok hO (seen' := seen') h hs2 hsub
        refine ⟨fr', st', p', (hp.both hev).lift fun n hn => ?_, hs', hK⟩
        simp only [opsFrom, hop n hn.1, ok_bind, Bool.false_and]
        exact hn.2
      | true =>
        obtain ⟨ho, h⟩ := chk_some h
        obtain ⟨p2, hs2, h⟩ := putS_some h hs1
        cases hq : quiet x with
        | true =>
          obtain ⟨fr', st', p', hev, hs', hK⟩ := opsS_ok hO (seen' := seen') h hs2 fun y hy => List.mem_cons_of_mem _ (hsub y hy)
          refine ⟨fr', st', p', (hp.both hev).lift fun n hn => ?_, hs', hK⟩
          simp only [opsFrom, hop n hn.1, ok_bind, hq, Bool.not_true, Bool.and_false]
          exact hn.2
        | false =>
          obtain ⟨fr', st', p', hev, hs', hK⟩ := opsS_ok hO (seen' := (j, x) :: seen') h hs2 fun y hy => by
            rcases List.mem_cons.1 hy with e | hy
            · rw [e]; exact List.mem_cons_self ..
            · exact List.mem_cons_of_mem _ (hsub y hy)
          refine ⟨fr', st', p', (hp.both hev).lift fun n hn => ?_, hs', hK⟩
          simp only [opsFrom, hop n hn.1, ok_bind, hq, Bool.not_false, Bool.and_self, orderS_some ho seen' hsub]
          exact hn.2
    · obtain ⟨p2, hs2, h⟩ := putS_some h hs1
      obtain ⟨fr', st', p', hev, hs', hK⟩ := opsS_ok hO (seen' := seen') h hs2 hsub
      refine ⟨fr', st', p', hev.lift fun n hn => ?_, hs', hK⟩
      have : oper (cx S E n) all fr st o = .ok (undef, ⟨[], .kept⟩) := by simp only [oper, hw]
      simp only [opsFrom, this, ok_bind, quiet, List.isEmpty_nil, Bool.not_true, Bool.and_false]
      exact hn
theorem hatchS_some {T : TT} {t : TypeId} {i : TI} {nm : Nat} {st : St} {K : Kv β} (hi : ti T t = .ok i) (h : hatchS t i.zero nm st K = some r) : ∃ v x, hatch T t nm st = .ok (v, x) ∧ K v (x.did.app st) x = some r := by
  unfold hatchS outS at h
  obtain ⟨⟨v, st', x⟩, h1, h2⟩ := bindO_some h
  unfold hatchO at h1
  split at h1
  · rename_i hg
    unfold wroteO at h1
    split at h1
    · rename_i hro
      cases h1
      exact ⟨_, _, hatch_mk (ti_ok.1 hi) hg (Nat.le_of_ble_eq_true hro), h2⟩
    · cases h1
  · cases h1
theorem opsES_ok {S : Sx} (hO : OOk E S.O) {e : Nat → Option Nat} {all : List Oper} : ∀ {l : List Oper} {j : Nat} {seen seen' : List (Nat × Fx)} {p : PF} {fr : Fr} {st : St} {K : PF → St → Option β},
    opsES S N e all j seen l p st K = some r → Sub N p fr → (∀ y ∈ seen', y ∈ seen) → ∃ fr' st' p', (Evt fun n => opsFromE (cx S E n) e all j seen' l fr st = .ok (fr', st')) ∧ Sub N p' fr' ∧ K p' st' = some r
  | [], _, _, _, p, fr, st, _, h, hs, _ => ⟨fr, st, p, Evt.always fun _ => rfl, hs, h⟩
  | o :: l, j, seen, seen', p, fr, st, K, h, hs, hsub => by
    simp only [opsES] at h
    rcases guardS_some h hs with ⟨hw, p1, hs1, h⟩ | ⟨hw, p1, hs1, h⟩
    · have key : ∃ v x, (Evt fun n => operE (cx S E n) e all fr st o = .ok (v, x)) ∧ decT (isArith o.op) S.T o.type v (fun v => chk (orderS all j x seen) (putS N o.dst v p1 fun p => opsES S N e all (j + 1) ((j, x) :: seen) l p (x.did.app st) K)) = some r := by
        unfold semE at h
        split at h
        · rename_i t nm hh
          obtain ⟨i, hi, h⟩ := tiS_some h
          obtain ⟨v, x, h1, h2⟩ := hatchS_some hi h
          refine ⟨v, x, Evt.always fun n => ?_, h2⟩
          simp only [operE, hw, hh]
          exact h1
        · rename_i hh
          obtain ⟨v, x, hp, h⟩ := semS_ok hO h hs1
          refine ⟨v, x, Evt.lift hp fun n e1 => ?_, h⟩
          simp only [operE, hw, hh]
          exact e1
      obtain ⟨v, x, hop, h⟩ := key
      have h := decT_some (K := fun v => chk (orderS all j x seen) (putS N o.dst v p1 fun p => opsES S N e all (j + 1) ((j, x) :: seen) l p (x.did.app st) K)) h
      obtain ⟨ho, h⟩ := chk_some h
      obtain ⟨p2, hs2, h⟩ := putS_some h hs1
      cases hq : quiet x with
      | true =>
        obtain ⟨fr', st', p', hev, hs', hK⟩ := opsES_ok hO (seen' := seen') h hs2 fun y hy => List.mem_cons_of_mem _ (hsub y hy)
        refine ⟨fr', st', p', (hop.both hev).lift fun n hn => ?_, hs', hK⟩
        simp only [opsFromE, hn.1, ok_bind, hq, Bool.not_true]
        exact hn.2
      | false =>
        obtain ⟨fr', st', p', hev, hs', hK⟩ := opsES_ok hO (seen' := (j, x) :: seen') h hs2 fun y hy => by
          rcases List.mem_cons.1 hy with e | hy
          · rw [e]; exact List.mem_cons_self ..
          · exact List.mem_cons_of_mem _ (hsub y hy)
        refine ⟨fr', st', p', (hop.both hev).lift fun n hn => ?_, hs', hK⟩
        simp only [opsFromE, hn.1, ok_bind, hq, Bool.not_false, orderS_some ho seen' hsub]
        exact hn.2
    · obtain ⟨p2, hs2, h⟩ := putS_some h hs1
      obtain ⟨fr', st', p', hev, hs', hK⟩ := opsES_ok hO (seen' := seen') h hs2 hsub
      refine ⟨fr', st', p', hev.lift fun n hn => ?_, hs', hK⟩
      have : operE (cx S E n) e all fr st o = .ok (undef, ⟨[], .kept⟩) := by simp only [operE, hw]
      simp only [opsFromE, this, ok_bind, quiet, List.isEmpty_nil, Bool.not_true]
      exact hn
theorem layS_some {K : St → Option β} : ∀ {l : List Nat} {st : St}, layS st l K = some r → K (st.lay l) = some r
  | [], _, h => h
  | _ :: l, st, h => layS_some (l := l) (st := (st.new .egg).2) h
def Vals (fr : Fr) : List Nat → List AV → Prop
  | [], vs => vs = []
  | i :: l, vs => ∃ v vs', vs = v :: vs' ∧ fr.look i = some v ∧ Vals fr l vs'
theorem getAll_some : ∀ {l : List Nat} {p : PF} {fr : Fr} {K : List AV → Option β}, getAll p l K = some r → Sub N p fr → ∃ vs, Vals fr l vs ∧ K vs = some r
  | [], _, _, _, h, _ => ⟨[], rfl, h⟩
  | i :: l, p, fr, K, h, hs => by
    simp only [getAll] at h
    split at h
    · rename_i v hv
      obtain ⟨vs, hvs, h⟩ := getAll_some h hs
      exact ⟨v :: vs, ⟨v, vs, rfl, hs.2 _ _ hv, hvs⟩, h⟩
    · cases h
theorem putAllS_some {T : TT} {tys : List (Nat × TypeId)} : ∀ {l : List Nat} {vs : List AV} {p : PF} {fr : Fr} {K : PF → Option β}, putAllS T tys l vs p K = some r → Vals fr l vs → Sub N p fr → ∃ p', Sub N p' fr ∧ K p' = some r
  | [], vs, p, fr, K, h, _, hs => by
    obtain ⟨_, h⟩ := un0_some h
    exact ⟨p, hs, h⟩
  | i :: l, vs, p, fr, K, h, hv, hs => by
    obtain ⟨v, vs', rfl, hd⟩ := unc_some h
    obtain ⟨v', vs'', e, hg, hvs⟩ := hv
    cases e
    have h : (putAllS T tys l vs' p fun p => K ((i, v) :: p)) = some r := by
      unfold decSlot at hd
      split at hd
      · exact decT_some (K := fun v => putAllS T tys l vs' p fun p => K ((i, v) :: p)) hd
      · exact hd
    obtain ⟨p', hs', h⟩ := putAllS_some h hvs hs
    exact ⟨_, hs'.know hg, h⟩
theorem erase_get {W : List Nat} {i : Nat} {v : AV} : ∀ {p : PF}, PF.get (erase W p) i = some v → PF.get p i = some v ∧ i ∉ W
  | [], h => by cases h
  | (k, u) :: p, h => by
    simp only [erase] at h
    split at h
    · rename_i he
      have ih := erase_get h
      refine ⟨?_, ih.2⟩
      rw [PF.get_cons, if_neg]
      · exact ih.1
      · rintro rfl; exact ih.2 (elemN_iff.1 he)
    · rename_i he
      rw [PF.get_cons] at h
      split at h
      · rename_i e
        refine ⟨by rw [PF.get_cons, if_pos e]; exact h, fun hm => ?_⟩
        rw [← e] at hm
        rw [elemN_iff.2 hm] at he; cases he
      · rename_i e
        have ih := erase_get h
        exact ⟨by rw [PF.get_cons, if_neg e]; exact ih.1, ih.2⟩
theorem Sub.erased {W : List Nat} {p : PF} {fr fr' : Fr} (hs : Sub N p fr) (hn : fr'.n = fr.n) (hf : ∀ i, i ∉ W → fr'.look i = fr.look i) : Sub N (erase W p) fr' :=
  ⟨hn.trans hs.1, fun i v hv => (hf i (erase_get hv).2).trans (hs.2 i v (erase_get hv).1)⟩
end
section
variable {β : Type} {r : β}
theorem loopO_some {σ : Type} {F : σ → Option (Sum σ β)} {s : σ} (h : loopO F s = some r) : ∃ n, loopN F n s = some r := by
  unfold loopO at h
  split at h
  · rename_i hx
    cases h
    exact hx.choose_spec
  · cases h
theorem loopN_mono {σ : Type} {F : σ → Option (Sum σ β)} : ∀ {n m : Nat} {s : σ}, n ≤ m → loopN F n s = some r → loopN F m s = some r
  | 0, _, _, _, h => by cases h
  | n + 1, 0, _, hn, _ => by omega
  | n + 1, m + 1, s, hn, h => by
    simp only [loopN] at h ⊢
    split at h
    · exact loopN_mono (by omega) h
    · exact h
    · cases h
theorem loopO_of {σ : Type} {F : σ → Option (Sum σ β)} {s : σ} {n : Nat} (h : loopN F n s = some r) : loopO F s = some r := by
  have hx : ∃ r n, loopN F n s = some r := ⟨r, n, h⟩
  unfold loopO
  rw [dif_pos hx]
  obtain ⟨m, hm⟩ := hx.choose_spec
  have h1 := loopN_mono (Nat.le_max_left m n) hm
  have h2 := loopN_mono (Nat.le_max_right m n) h
  rw [h1] at h2
  exact h2
theorem loopO_eq {σ : Type} (F : σ → Option (Sum σ β)) (s : σ) : loopO F s = match F s with
    | some (.inl s') => loopO F s'
    | some (.inr r) => some r
    | none => none := by
  cases e : F s with
  | none =>
    cases h : loopO F s with
    | none => rfl
    | some r =>
      obtain ⟨n, hn⟩ := loopO_some h
      cases n with
      | zero => cases hn
      | succ n => simp [loopN, e] at hn
  | some x =>
    cases x with
    | inr r => exact loopO_of (n := 1) (by simp [loopN, e])
    | inl s' =>
      dsimp only
      cases h : loopO F s' with
      | some r =>
        obtain ⟨n, hn⟩ := loopO_some h
        exact loopO_of (n := n + 1) (by simp only [loopN, e]; exact hn)
      | none =>
        cases h' : loopO F s with
        | none => rfl
        | some r =>
          obtain ⟨n, hn⟩ := loopO_some h'
          cases n with
          | zero => cases hn
          | succ n =>
            simp only [loopN, e] at hn
            rw [loopO_of hn] at h; cases h
theorem exNum_sel {K : Ex → Option β} {x : Ex} : ∀ {l : List Ex} {n k : Nat}, exNum x l n = some k → n ≤ k ∧ selK K l (k - n) = K x
  | [], _, _, h => by cases h
  | y :: l, n, k, h => by
    simp only [exNum] at h
    split at h
    · rename_i e
      have e := of_decide_eq_true e
      cases h
      refine ⟨Nat.le_refl _, ?_⟩
      rw [Nat.sub_self, ← e]
      cases l <;> rfl
    · obtain ⟨h1, h2⟩ := exNum_sel (K := K) h
      refine ⟨by omega, ?_⟩
      cases l with
      | nil => cases h
      | cons z l =>
        have : k - n = (k - (n + 1)) + 1 := by omega
        rw [this]
        exact h2
end
section
variable {N : Nat} {E : Env}
theorem runS_ok {S : Sx} (hO : OOk E S.O) {tys : List (Nat × TypeId)} : ∀ (c : Code) {live : List Nat} {β : Type} {r : β} {p : PF} {fr : Fr} {st : St} {K : Ex → PF → St → Option β},
    runS S N tys c live p st K = some r → Sub N p fr → (fr.strict = true → straight c = true) → ∃ ex fr' st' p', (Evt fun n => exec (cx S E n) n c fr st = .ok (ex, fr', st')) ∧ Sub N p' fr' ∧ K ex p' st' = some r
  | .skip, _, _, _, p, fr, st, _, h, hs, _ => ⟨.normal, fr, st, p, Evt.always fun _ => rfl, hs, h⟩
  | .label _, _, _, _, p, fr, st, _, h, hs, _ => ⟨.normal, fr, st, p, Evt.always fun _ => rfl, hs, h⟩
  | .exit i, _, _, _, p, fr, st, _, h, hs, _ => ⟨.exit i, fr, st, p, Evt.always fun _ => rfl, hs, h⟩
  | .ret, _, _, _, p, fr, st, _, h, hs, _ => ⟨.ret, fr, st, p, Evt.always fun _ => rfl, hs, h⟩
  | .goto _, _, _, _, _, _, _, _, h, _, _ | .refuse _, _, _, _, _, _, _, _, h, _, _ => by simp [runS] at h
  | .rangeFunc g ps a c, live, β, r, p, fr, st, K, h, hs, hst => by
    have hf : fr.strict = false := by
      cases e : fr.strict with
      | false => rfl
      | true => exact absurd (hst e) (by simp [straight])
    simp only [runS] at h
    obtain ⟨fv, e1, h⟩ := ev_some h hs
    obtain ⟨vs, hvs, h⟩ := getAll_some h hs
    have hvs : vs = getEach fr (capsOf ps.toList a c) := by
      clear h
      generalize capsOf ps.toList a c = us at hvs
      induction us generalizing vs with
      | nil => exact hvs
      | cons u us ih =>
        obtain ⟨v, vs', rfl, h1, h2⟩ := hvs
        rw [ih vs' h2, getEach, look_get h1]
    subst hvs
    unfold rangeS at h
    split at h
    · rename_i f cap _
      obtain ⟨⟨v, st1⟩, h1, h⟩ := bindO_some h
      unfold endR at h
      dsimp only at h
      split at h
      · rename_i imm1 ps1 a1 c1 fr1 s p1 hg
        obtain ⟨hsp, h⟩ := chk_some h
        have hJ : ∀ l : List Ex, onJump p1 (fun ex => K ex p (st1.put st.h .dead)) l = some r → K p1 p (st1.put st.h .dead) = some r := by
          intro l
          induction l with
          | nil => intro h; cases h
          | cons x l ih =>
            intro h
            simp only [onJump, jumpIf] at h
            cases hd : decide (p1 = x) with
            | true => rw [hd] at h; rw [of_decide_eq_true hd] at h ⊢; exact h
            | false => rw [hd] at h; exact ih h
        refine ⟨p1, fr, st1.put st.h .dead, p, (hO.wide _ _ _ _ h1).lift fun n hn => ?_, hs, hJ _ h⟩
        have e1 : evalO (cx S E n).G fr g = .ok (.fn (.func f) [] cap) := e1
        have hn : (cx S E n).C.wide f (.yld st.h :: cap) (st.new (.loop (cx S E n).imm ps.toList a c (frOf fr.n (capsOf ps.toList a c) (getEach fr (capsOf ps.toList a c))) 0 .normal)).2 = .ok (v, st1) := by
          rw [hs.1]; exact hn
        simp only [exec, hf, e1, ok_bind, hn, hg, hsp, pure_eq]
      · cases h
    · cases h
  | .scope c, live, β, r, p, fr, st, K, h, hs, hst => runS_ok hO c (live := live) h hs fun e => absurd (hst e) (by simp [straight])
  | .region id ops draw, live, β, r, p, fr, st, K, h, hs, _ => by
    simp only [runS] at h
    split at h
    · rename_i hd
      have hd : ∀ n, (draw && (cx S E n).imm 4000000) = false := fun n => hd
      split at h
      · obtain ⟨fr', st', p', hev, hs', hK⟩ := opsS_ok hO (seen' := []) h hs (fun _ hy => by cases hy)
        exact ⟨.normal, fr', st', p', hev.lift fun n hn => by simp only [exec, hd n, hn, ok_bind, pure_eq], hs', hK⟩
      · obtain ⟨c, h1, h2⟩ := bindO_some h
        obtain ⟨fr', st', p', hev, hs', hK⟩ := opsS_ok hO (seen' := []) h1 hs (fun _ hy => by cases hy)
        obtain ⟨vs, hvs, e⟩ := getAll_some hK hs'
        cases e
        obtain ⟨m, hm⟩ := hev
        have hf := opsFrom_frame (hm m (Nat.le_refl _))
        obtain ⟨p2, hs2, hK2⟩ := putAllS_some h2 hvs (hs.erased hf.1 hf.2)
        exact ⟨.normal, fr', st', p2, ⟨m, fun n hn => by simp only [exec, hd n, hm n hn, ok_bind, pure_eq]⟩, hs2, hK2⟩
    · rename_i hd
      have hd : ∀ n, (draw && (cx S E n).imm 4000000) = true := fun n => hd
      have h := layS_some (K := fun st' => match hasGuard ops.toList with
        | false => opsES S N (eggAt st.h (eggsOf ops.toList)) ops.toList 0 [] ops.toList p st' fun p st => K .normal p st
        | true => let ws := dedup (meetN live (operWrites ops.toList))
          bindO (opsES (β := Car) S N (eggAt st.h (eggsOf ops.toList)) ops.toList 0 [] ops.toList p st' fun p st => getAll p ws fun vs => some (vs, st)) fun c =>
            putAllS S.T tys ws c.1 (erase (operWrites ops.toList) p) fun p => K .normal p c.2) h
      dsimp only at h
      split at h
      · obtain ⟨fr', st', p', hev, hs', hK⟩ := opsES_ok hO (seen' := []) h hs (fun _ hy => by cases hy)
        exact ⟨.normal, fr', st', p', hev.lift fun n hn => by simp only [exec, hd n, hn, ok_bind, pure_eq], hs', hK⟩
      · obtain ⟨c, h1, h2⟩ := bindO_some h
        obtain ⟨fr', st', p', hev, hs', hK⟩ := opsES_ok hO (seen' := []) h1 hs (fun _ hy => by cases hy)
        obtain ⟨vs, hvs, e⟩ := getAll_some hK hs'
        cases e
        obtain ⟨m, hm⟩ := hev
        have hf := opsFromE_frame (hm m (Nat.le_refl _))
        obtain ⟨p2, hs2, hK2⟩ := putAllS_some h2 hvs (hs.erased hf.1 hf.2)
        exact ⟨.normal, fr', st', p2, ⟨m, fun n hn => by simp only [exec, hd n, hm n hn, ok_bind, pure_eq]⟩, hs2, hK2⟩
  | .seq a b, live, β, r, p, fr, st, K, h, hs, hst => by
    have hst : fr.strict = true → straight a = true ∧ straight b = true := fun e => by have := hst e; simpa [straight] using this
    simp only [runS] at h
    obtain ⟨ex, fr1, st1, p1, hev, hs1, hK⟩ := runS_ok hO a h hs fun e => (hst e).1
    have h1s : fr1.strict = fr.strict := by
      obtain ⟨m, hm⟩ := hev
      exact exec_strict _ (hm m (Nat.le_refl _))
    cases ex with
    | normal =>
      obtain ⟨ex, fr2, st2, p2, hev2, hs2, hK2⟩ := runS_ok hO b hK hs1 fun e => (hst (h1s ▸ e)).2
      exact ⟨ex, fr2, st2, p2, (hev.both hev2).lift fun n hn => by simp only [exec, hn.1, ok_bind, hn.2], hs2, hK2⟩
    | exit i => exact ⟨.exit i, fr1, st1, p1, hev.lift fun n hn => by simp only [exec, hn, ok_bind, pure_eq], hs1, hK⟩
    | ret => exact ⟨.ret, fr1, st1, p1, hev.lift fun n hn => by simp only [exec, hn, ok_bind, pure_eq], hs1, hK⟩
  | .cond c a b, live, β, r, p, fr, st, K, h, hs, hst => by
    have hst : fr.strict = true → straight a = true ∧ straight b = true := fun e => by have := hst e; simpa [straight] using this
    simp only [runS] at h
    obtain ⟨cv, e1, h⟩ := ev_some h hs
    obtain ⟨bv, rfl, h⟩ := asB_some h
    have fin : ∀ {ex fr' st'}, (Evt fun n => exec (cx S E n) n (bif bv then a else b) fr st = .ok (ex, fr', st')) → Evt fun n => exec (cx S E n) n (.cond c a b) fr st = .ok (ex, fr', st') := fun h => h.lift fun n hn => by
      have e1 : evalO (cx S E n).G fr c = .ok (.bool bv) := e1
      cases bv <;> (simp only [exec, e1, ok_bind, VM.asBool]; exact hn)
    have two : ∀ {γ : Type} {q : γ} {J : Ex → PF → St → Option γ}, (ifB bv (runS S N tys a live p st J) (runS S N tys b live p st J)) = some q →
        ∃ ex fr' st' p', (Evt fun n => exec (cx S E n) n (bif bv then a else b) fr st = .ok (ex, fr', st')) ∧ Sub N p' fr' ∧ J ex p' st' = some q := by
      intro γ q J h
      cases bv
      · exact runS_ok hO b h hs fun e => (hst e).2
      · exact runS_ok hO a h hs fun e => (hst e).1
    have outs : ∀ {ex fr' st'}, (Evt fun n => exec (cx S E n) n (bif bv then a else b) fr st = .ok (ex, fr', st')) → fr'.n = fr.n ∧ ∀ i, i ∉ writes a ++ writes b → fr'.look i = fr.look i := by
      rintro ex fr' st' ⟨m, hm⟩
      have := exec_frame _ (hm m (Nat.le_refl _))
      refine ⟨this.1, fun i hi => this.2 i fun hm => hi ?_⟩
      cases bv
      · exact List.mem_append.2 (.inr hm)
      · exact List.mem_append.2 (.inl hm)
    split at h
    · obtain ⟨ex, fr', st', p', hev, hs', hK⟩ := two h
      exact ⟨ex, fr', st', p', fin hev, hs', hK⟩
    · split at h
      · obtain ⟨q, h1, h2⟩ := bindO_some h
        obtain ⟨ex, fr', st', p', hev, hs', hK⟩ := two h1
        have hf := outs hev
        cases ex with
        | normal =>
          obtain ⟨vs, hvs, e⟩ := getAll_some hK hs'
          cases e
          obtain ⟨p2, hs2, hK2⟩ := putAllS_some h2 hvs (hs.erased hf.1 hf.2)
          exact ⟨.normal, fr', st', p2, fin hev, hs2, hK2⟩
        | exit i => cases hK
        | ret => cases hK
      · obtain ⟨q, h1, h2⟩ := bindO_some h
        obtain ⟨ex, fr', st', p', hev, hs', hK⟩ := two h1
        have hf := outs hev
        cases ex with
        | normal =>
          obtain ⟨vs, hvs, e⟩ := getAll_some hK hs'
          cases e
          obtain ⟨p2, hs2, hK2⟩ := putAllS_some h2 hvs (hs.erased hf.1 hf.2)
          exact ⟨.normal, fr', st', p2, fin hev, hs2, hK2⟩
        | exit i =>
          obtain ⟨q', h3, e⟩ := bindO_some hK
          cases e
          cases h2
          exact ⟨_, fr', st', p', fin hev, hs', h3⟩
        | ret =>
          obtain ⟨q', h3, e⟩ := bindO_some hK
          cases e
          cases h2
          exact ⟨_, fr', st', p', fin hev, hs', h3⟩
  | .block id c, live, β, r, p, fr, st, K, h, hs, hst => by
    simp only [runS] at h
    split at h
    · obtain ⟨ex, fr1, st1, p1, hev, hs1, hK⟩ := runS_ok hO c h hs hst
      cases ex with
      | normal => exact ⟨.normal, fr1, st1, p1, hev.lift fun n hn => by simp only [exec, hn, ok_bind, pure_eq], hs1, hK⟩
      | ret => exact ⟨.ret, fr1, st1, p1, hev.lift fun n hn => by simp only [exec, hn, ok_bind, pure_eq], hs1, hK⟩
      | exit i =>
        dsimp only at hK
        split at hK
        · rename_i hi
          exact ⟨.normal, fr1, st1, p1, hev.lift fun n hn => by simp only [exec, hn, ok_bind, pure_eq, hi], hs1, hK⟩
        · rename_i hi
          exact ⟨.exit i, fr1, st1, p1, hev.lift fun n hn => by simp only [exec, hn, ok_bind, pure_eq, hi], hs1, hK⟩
    · obtain ⟨q, h1, h2⟩ := bindO_some h
      obtain ⟨ex, fr', st', p', hev, hs', hK⟩ := runS_ok hO c h1 hs hst
      have hf : fr'.n = fr.n ∧ ∀ i, i ∉ writes c → fr'.look i = fr.look i := by
        obtain ⟨m, hm⟩ := hev
        exact exec_frame _ (hm m (Nat.le_refl _))
      cases ex with
      | normal =>
        obtain ⟨vs, hvs, e⟩ := getAll_some hK hs'
        cases e
        obtain ⟨p2, hs2, hK2⟩ := putAllS_some h2 hvs (hs.erased hf.1 hf.2)
        exact ⟨.normal, fr', st', p2, hev.lift fun n hn => by simp only [exec, hn, ok_bind, pure_eq], hs2, hK2⟩
      | exit i =>
        dsimp only at hK
        split at hK
        · rename_i hi
          obtain ⟨vs, hvs, e⟩ := getAll_some hK hs'
          cases e
          obtain ⟨p2, hs2, hK2⟩ := putAllS_some h2 hvs (hs.erased hf.1 hf.2)
          exact ⟨.normal, fr', st', p2, hev.lift fun n hn => by simp only [exec, hn, ok_bind, pure_eq, hi], hs2, hK2⟩
        · rename_i hi
          obtain ⟨q', h3, e⟩ := bindO_some hK
          cases e
          cases h2
          exact ⟨.exit i, fr', st', p', hev.lift fun n hn => by simp only [exec, hn, ok_bind, pure_eq, hi], hs', h3⟩
      | ret =>
        obtain ⟨q', h3, e⟩ := bindO_some hK
        cases e
        cases h2
        exact ⟨.ret, fr', st', p', hev.lift fun n hn => by simp only [exec, hn, ok_bind, pure_eq], hs', h3⟩
  | .loop c, live, β, r, p, fr, st, K, h, hs, hst => by
    simp only [runS] at h
    obtain ⟨vs, hvs, h⟩ := getAll_some h hs
    obtain ⟨q, h1, h2⟩ := bindO_some h
    obtain ⟨m, hm⟩ := loopO_some h1
    have key : ∀ (m : Nat) (vs : List AV) (st : St) (fr1 : Fr), Vals fr1 (dedup (knownIn p (writes c))) vs → fr1.strict = fr.strict → fr1.n = fr.n → (∀ i, i ∉ writes c → fr1.look i = fr.look i) →
        loopN (fun s : Car => putAllS S.T tys (dedup (knownIn p (writes c))) s.1 (erase (writes c) p) fun p' => runS S N tys c (dedup (knownIn p (writes c)) ++ live) p' s.2 fun ex p' st => match ex with
          | .normal => getAll p' (dedup (knownIn p (writes c))) fun vs => some ((.inl (vs, st) : Sum Car (Nat × Car)))
          | ex => bindO (exNum ex ((leaves c).outs.eraseDups.map .exit ++ (match (leaves c).rets with | true => [.ret] | false => [])) 0) fun k => getAll p' (meetN live (dedup (knownIn p (writes c)))) fun vs => some (.inr (k, vs, st))) m (vs, st) = some q → ∃ ex fr' st' p', (Evt fun n => ∃ k, k ≤ m ∧ iter (exec (cx S E n) n c) k fr1 st = .ok (ex, fr', st')) ∧ ex ≠ .normal ∧ Sub N p' fr' ∧ (fr'.n = fr.n ∧ ∀ i, i ∉ writes c → fr'.look i = fr.look i) ∧
          (bindO (exNum ex ((leaves c).outs.eraseDups.map .exit ++ (match (leaves c).rets with | true => [.ret] | false => [])) 0) fun k => getAll p' (meetN live (dedup (knownIn p (writes c)))) fun vs => some ((.inr (k, vs, st') : Sum Car (Nat × Car)))) = some (.inr q) := by
      intro m
      induction m with
      | zero => intro vs st fr1 _ _ _ _ h; cases h
      | succ m ih =>
        intro vs st fr1 hv hsf hn hf h
        simp only [loopN] at h
        split at h
        · rename_i s' e
          obtain ⟨p1, hs1, h3⟩ := putAllS_some e hv (hs.erased hn hf)
          obtain ⟨ex, fr2, st2, p2, hev, hs2, hK⟩ := runS_ok hO c h3 hs1 fun e => hst (hsf ▸ e)
          have hfr : fr2.n = fr1.n ∧ ∀ i, i ∉ writes c → fr2.look i = fr1.look i := by
            obtain ⟨m, hm⟩ := hev
            exact exec_frame _ (hm m (Nat.le_refl _))
          have hs2f : fr2.strict = fr1.strict := by
            obtain ⟨m, hm⟩ := hev
            exact exec_strict _ (hm m (Nat.le_refl _))
          cases ex with
          | normal =>
            obtain ⟨vs2, hv2, e2⟩ := getAll_some hK hs2
            cases e2
            obtain ⟨ex, fr3, st3, p3, hev3, hx, hs3, hf3, hK3⟩ := ih vs2 st2 fr2 hv2 (hs2f.trans hsf) (hfr.1.trans hn) (fun i hi => (hfr.2 i hi).trans (hf i hi)) h
            refine ⟨ex, fr3, st3, p3, (hev.both hev3).lift fun n hn => ?_, hx, hs3, hf3, hK3⟩
            obtain ⟨h4, k, hk, h5⟩ := hn
            exact ⟨k + 1, by omega, by simp only [iter, h4, ok_bind]; exact h5⟩
          | exit i =>
            obtain ⟨k, _, hK⟩ := bindO_some hK
            obtain ⟨vs2, _, e2⟩ := getAll_some hK hs2
            cases e2
          | ret =>
            obtain ⟨k, _, hK⟩ := bindO_some hK
            obtain ⟨vs2, _, e2⟩ := getAll_some hK hs2
            cases e2
        · rename_i q' e
          cases h
          obtain ⟨p1, hs1, h3⟩ := putAllS_some e hv (hs.erased hn hf)
          obtain ⟨ex, fr2, st2, p2, hev, hs2, hK⟩ := runS_ok hO c h3 hs1 fun e => hst (hsf ▸ e)
          have hfr : fr2.n = fr1.n ∧ ∀ i, i ∉ writes c → fr2.look i = fr1.look i := by
            obtain ⟨m, hm⟩ := hev
            exact exec_frame _ (hm m (Nat.le_refl _))
          have hfr' : fr2.n = fr.n ∧ ∀ i, i ∉ writes c → fr2.look i = fr.look i := ⟨hfr.1.trans hn, fun i hi => (hfr.2 i hi).trans (hf i hi)⟩
          cases ex with
          | normal =>
            obtain ⟨vs2, _, e2⟩ := getAll_some hK hs2
            cases e2
          | exit i => exact ⟨_, fr2, st2, p2, hev.lift fun n hn => ⟨1, by omega, by simp only [iter, hn, ok_bind]; rfl⟩, (by intro h; cases h), hs2, hfr', hK⟩
          | ret => exact ⟨_, fr2, st2, p2, hev.lift fun n hn => ⟨1, by omega, by simp only [iter, hn, ok_bind]; rfl⟩, (by intro h; cases h), hs2, hfr', hK⟩
        · cases h
    obtain ⟨ex, fr', st', p', hev, _, hs', hf, hK⟩ := key m vs st fr hvs rfl rfl (fun _ _ => rfl) hm
    obtain ⟨k, h3, hK⟩ := bindO_some hK
    obtain ⟨vs2, hv2, e2⟩ := getAll_some hK hs'
    cases e2
    obtain ⟨p2, hs2, hK2⟩ := putAllS_some h2 hv2 (hs.erased hf.1 hf.2)
    have hK2 : K ex p2 st' = some r := (exNum_sel (K := fun ex => K ex p2 st') h3).2.symm.trans hK2
    refine ⟨ex, fr', st', p2, ?_, hs2, hK2⟩
    obtain ⟨m', hm'⟩ := hev
    refine ⟨max m' m, fun n hn => ?_⟩
    obtain ⟨k, hk, h5⟩ := hm' n (by omega)
    simp only [exec]
    exact iter_mono (fun _ _ _ h => h) (by omega) h5
end
section
variable {β : Type} {r : β} {N : Nat} {E : Env} {S : Sx}
theorem argsS_some {T : TT} : ∀ {vs : List AV} {ts : List TypeId} {i : Nat} {p : PF} {t : Tr AV} {K : PF → Option β}, argsS T i ts vs p K = some r → Sub N p ⟨N, t, false⟩ → ∃ p', Sub N p' ⟨N, putAll i vs t, false⟩ ∧ K p' = some r
  | [], _, _, p, _, _, h, hs => ⟨p, hs, h⟩
  | v :: vs, ts, i, p, t, K, h, hs => by
    have hput : Sub N ((i, v) :: p) ⟨N, t.put i v, false⟩ := by
      refine ⟨rfl, fun j u hu => ?_⟩
      rw [PF.get_cons] at hu
      have hj : ∀ t : Tr AV, (⟨N, t, false⟩ : Fr).look j = some ((t.get j).getD undef) := fun _ => rfl
      rw [hj, Tr.get_put]
      split at hu
      · rename_i e; rw [if_pos e]; cases hu; rfl
      · rename_i e; rw [if_neg e, ← hj]; exact hs.2 j u hu
    cases ts with
    | nil => exact argsS_some (vs := vs) (ts := []) (i := i + 1) (p := (i, v) :: p) h hput
    | cons ty ts => exact argsS_some (vs := vs) (ts := ts) (i := i + 1) (p := (i, v) :: p) (decT_some (K := fun v => argsS T (i + 1) ts vs ((i, v) :: p) K) h) hput
theorem resS_some {p : PF} {fr : Fr} {st : St} {x : ResultVar} {K : AV → Option β} (h : resS S p st x K = some r) (hs : Sub N p fr) : ∃ v, resultOf S.T fr st x = .ok v ∧ K v = some r := by
  cases x with
  | tmp t =>
    simp only [resS] at h
    split at h
    · rename_i v hv
      exact ⟨v, by simp only [resultOf, look_get (hs.2 _ _ hv)], h⟩
    · cases h
  | cell a t =>
    simp only [resS] at h
    obtain ⟨i, e, h⟩ := tiS_some h
    split at h
    · rename_i av hv
      have hg := look_get (hs.2 _ _ hv)
      obtain ⟨⟨v, rd⟩, eo, h⟩ := bindO_some h
      unfold loadO at eo
      split at eo
      · split at eo
        · rename_i e1
          cases eo
          exact ⟨v, by simp only [resultOf, e, hg, ok_bind, loadP, e1, pure_eq], decT_some h⟩
        · cases eo
      · split at eo
        · rename_i e1
          split at eo
          · rename_i e2
            cases eo
            exact ⟨v, by simp only [resultOf, e, hg, ok_bind, loadP, readP, e1, e2, cellsOf, pure_eq], decT_some h⟩
          · cases eo
        · cases eo
      · split at eo
        · rename_i e1
          split at eo
          · rename_i hm
            split at eo
            · rename_i e2
              cases eo
              exact ⟨v, by simp only [resultOf, e, hg, ok_bind, loadP, readP, e1, e2, hm, pure_eq], decT_some h⟩
            · cases eo
          · cases eo
        · cases eo
      · cases eo
    · cases h
theorem ressS_some {p : PF} {fr : Fr} {st : St} : ∀ {l : List ResultVar} {K : List AV → Option β}, ressS S p st l K = some r → Sub N p fr → ∃ vs, resultsOf S.T fr st l = .ok vs ∧ K vs = some r
  | [], _, h, _ => ⟨[], rfl, h⟩
  | x :: l, K, h, hs => by
    obtain ⟨v, e, h⟩ := resS_some h hs
    obtain ⟨vs, e', h⟩ := ressS_some h hs
    exact ⟨v :: vs, by simp only [resultsOf, e, e', ok_bind, pure_eq], h⟩
theorem bodyS_ok (hO : OOk E S.O) {fn : Func} {args : List AV} {st : St} {K : AV → St → Option β} (h : bodyS S fn args st K = some r) :
    ∃ v st', (Evt fun n => body (cx S E n) n fn args st = .ok (v, st')) ∧ K v st' = some r := by
  unfold bodyS at h
  split at h
  · cases h
  · rename_i c hc
    split at h
    · cases h
    · rename_i hl
      obtain ⟨p, hs, h⟩ := argsS_some (N := fn.ntmps) (t := .leaf) h ⟨rfl, fun _ _ hg => by cases hg⟩
      obtain ⟨ex, fr', st', p', hev, hs', hK⟩ := runS_ok hO c h hs (fun e => by cases e)
      have hx : (ressS S p' st' fn.results.toList fun vs => K (oneOf vs) st') = some r ∧ (∀ i, ex ≠ .exit i) := by
        cases ex with
        | exit i => cases hK
        | normal => exact ⟨hK, by intro i h; cases h⟩
        | ret => exact ⟨hK, by intro i h; cases h⟩
      obtain ⟨vs, e, hK⟩ := ressS_some hx.1 hs'
      refine ⟨oneOf vs, st', hev.lift fun n hn => ?_, hK⟩
      have e : resultsOf (cx S E n).T fr' st' fn.results.toList = .ok vs := e
      have hn : exec (cx S E n) n c (frameOf fn.ntmps args) st = .ok (ex, fr', st') := hn
      unfold body
      rw [hc]
      dsimp only
      rw [hl]
      dsimp only
      rw [hn, ok_bind]
      cases ex with
      | exit i => exact absurd rfl (hx.2 i)
      | normal => simp only [e, ok_bind, pure_eq]
      | ret => simp only [e, ok_bind, pure_eq]
end
section
variable {E : Env}
open Classical in
noncomputable def orc (E : Env) : Orc where
  full := E.full
  isLook := E.isLook
  bare f a := if h : ∃ v n, (caller E n).bare f a = .ok v then some h.choose else none
  wide f a st := if h : ∃ v n, (caller E n).wide f a st = .ok v then some h.choose else none
  look f a st := if h : ∃ v n, (caller E n).look f a st = .ok v then some h.choose else none
  round k a st := if h : ∃ v n, (caller E n).round k a st = .ok v then some h.choose else none
theorem orc_ok (E : Env) : OOk E (orc E) where
  full := rfl
  isLook := rfl
  bare f a v h := by
    simp only [orc] at h
    split at h
    · rename_i hx
      cases h
      obtain ⟨m, hm⟩ := hx.choose_spec
      exact ⟨m, fun n hn => (caller_mono E hn).bare _ _ _ hm⟩
    · cases h
  wide f a st v h := by
    simp only [orc] at h
    split at h
    · rename_i hx
      cases h
      obtain ⟨m, hm⟩ := hx.choose_spec
      exact ⟨m, fun n hn => (caller_mono E hn).wide _ _ _ _ hm⟩
    · cases h
  look f a st v h := by
    simp only [orc] at h
    split at h
    · rename_i hx
      cases h
      obtain ⟨m, hm⟩ := hx.choose_spec
      exact ⟨m, fun n hn => (caller_mono E hn).look _ _ _ _ hm⟩
    · cases h
  round k a st v h := by
    simp only [orc] at h
    split at h
    · rename_i hx
      cases h
      obtain ⟨m, hm⟩ := hx.choose_spec
      exact ⟨m, fun n hn => (caller_mono E hn).round _ _ _ _ hm⟩
    · cases h
theorem orc_bare {f : FuncId} {a : List AV} {v : AV} {n : Nat} (h : (caller E n).bare f a = .ok v) : (orc E).bare f a = some v := by
  have hx : ∃ v n, (caller E n).bare f a = .ok v := ⟨v, n, h⟩
  simp only [orc, dif_pos hx]
  obtain ⟨m, hm⟩ := hx.choose_spec
  have h1 := (caller_mono E (Nat.le_max_left m n)).bare _ _ _ hm
  have h2 := (caller_mono E (Nat.le_max_right m n)).bare _ _ _ h
  rw [h1] at h2
  simpa using h2
theorem orc_wide {f : FuncId} {a : List AV} {st : St} {v : AV × St} {n : Nat} (h : (caller E n).wide f a st = .ok v) : (orc E).wide f a st = some v := by
  have hx : ∃ v n, (caller E n).wide f a st = .ok v := ⟨v, n, h⟩
  simp only [orc, dif_pos hx]
  obtain ⟨m, hm⟩ := hx.choose_spec
  have h1 := (caller_mono E (Nat.le_max_left m n)).wide _ _ _ _ hm
  have h2 := (caller_mono E (Nat.le_max_right m n)).wide _ _ _ _ h
  rw [h1] at h2
  simpa using h2
theorem orc_round {k : Nat} {a : List AV} {st : St} {v : AV × St} {n : Nat} (h : (caller E n).round k a st = .ok v) : (orc E).round k a st = some v := by
  have hx : ∃ v n, (caller E n).round k a st = .ok v := ⟨v, n, h⟩
  simp only [orc, dif_pos hx]
  obtain ⟨m, hm⟩ := hx.choose_spec
  have h1 := (caller_mono E (Nat.le_max_left m n)).round _ _ _ _ hm
  have h2 := (caller_mono E (Nat.le_max_right m n)).round _ _ _ _ h
  rw [h1] at h2
  simpa using h2
noncomputable def sx (E : Env) (f : FuncId) : Sx := ⟨E.T, E.prim, E.imm f, E.G, orc E⟩
noncomputable def bareS (E : Env) (f : FuncId) (args : List AV) : Option AV :=
  match E.F f with
  | none => none
  | some fn => bodyS (sx E f) fn args St.empty fun v s => frzS s 0 v some
noncomputable def wideS (E : Env) (f : FuncId) (args : List AV) (st : St) : Option (AV × St) :=
  match E.F f with
  | none => none
  | some fn => bodyS (sx E f) fn args st fun v s => some (v, s)
theorem frzS_some {β : Type} {r : β} {st : St} {b : Nat} {v : AV} {K : AV → Option β} (h : frzS st b v K = some r) : ∃ v', freeze st b 100 v = .ok v' ∧ bare v' = true ∧ K v' = some r := by
  unfold frzS at h
  split at h
  · obtain ⟨h1, h⟩ := chk_some h
    exact ⟨_, by assumption, h1, h⟩
  · cases h
theorem bare_of {f : FuncId} {args : List AV} {v : AV} (hm : (E.memo f, (E.rule f).isSome) = ([], false)) (h : bareS E f args = some v) : (orc E).bare f args = some v := by
  unfold bareS at h
  split at h
  · cases h
  · rename_i fn hF
    obtain ⟨u, s, ⟨m, hev⟩, h⟩ := bodyS_ok (orc_ok E) h
    obtain ⟨v', h1, h2, h⟩ := frzS_some h
    cases h
    refine orc_bare (n := m + 1) ?_
    have hev : body ⟨E.T, E.prim, E.imm f, E.G, caller E m⟩ m fn args St.empty = .ok (u, s) := hev m (Nat.le_refl _)
    have hk : E.known f args = none := by
      unfold Env.known
      have h1 := congrArg Prod.fst hm
      have h2 := congrArg Prod.snd hm
      dsimp only at h1 h2
      cases hr : E.rule f with
      | some r => rw [hr] at h2; cases h2
      | none => dsimp only; rw [h1]; rfl
    simp only [caller, hk, hF, hev, ok_bind, h1, h2, pure_eq]
theorem wide_of {f : FuncId} {args : List AV} {st : St} {v : AV × St} (h : wideS E f args st = some v) : (orc E).wide f args st = some v := by
  unfold wideS at h
  split at h
  · cases h
  · rename_i fn hF
    obtain ⟨u, s, ⟨m, hev⟩, h⟩ := bodyS_ok (orc_ok E) h
    cases h
    refine orc_wide (n := m + 1) ?_
    have hev : body ⟨E.T, E.prim, E.imm f, E.G, caller E m⟩ m fn args st = .ok (u, s) := hev m (Nat.le_refl _)
    simp only [caller, hF, hev, ok_bind, pure_eq]
end
def loopsIn : Code → List (List Nat × Code × Code)
  | .seq a b => loopsIn a ++ loopsIn b
  | .cond _ a b => loopsIn a ++ loopsIn b
  | .block _ c => loopsIn c
  | .loop c => loopsIn c
  | .scope c => loopsIn c
  | .rangeFunc _ ps a c => [(ps.toList, a, c)]
  | _ => []
def nthL {α : Type} : List α → Nat → Option α
  | [], _ => none
  | a :: _, 0 => some a
  | _ :: l, n + 1 => nthL l n
def storeTys : Code → List (Nat × TypeId)
  | .region _ ops _ => go ops.toList
  | .seq a b => storeTys a ++ storeTys b
  | _ => []
  where
  go : List Oper → List (Nat × TypeId)
    | [] => []
    | o :: l => match o.op with
      | .store t _ (.tmp x) => (x, t) :: go l
      | _ => go l
structure Lp where
  n : Nat
  ps : List Nat
  a : Code
  c : Code
  tys : List (Nat × TypeId)
def Lp.us (l : Lp) : List Nat := capsOf l.ps l.a l.c
def lpOf (E : Env) (f j : Nat) : Option Lp :=
  match E.F f with
  | none => none
  | some fn => match fn.body with
    | none => none
    | some c => match nthL (loopsIn c) j with
      | none => none
      | some (ps, a, b) => some ⟨fn.ntmps, ps, a, b, storeTys a ++ (paramTys 0 fn.params.toList ++ typesIn c)⟩
def lpS (E : Env) (f j : Nat) (vs : List AV) (s : Nat) (p : Ex) : Obj :=
  match lpOf E f j with
  | some l => .loop (E.imm f) l.ps l.a l.c (frOf l.n l.us vs) s p
  | none => .dead
def nodupN : List Nat → Bool
  | [] => true
  | i :: l => !elemN i l && nodupN l
def belowN (n : Nat) : List Nat → Bool
  | [] => true
  | i :: l => i.blt n && belowN n l
def Lp.ok (l : Lp) (vs args : List AV) : Bool :=
  (args.length.beq l.ps.length && vs.length.beq l.us.length) && ((straight l.a && straight l.c) && (nodupN (l.ps ++ l.us) && belowN l.n (l.ps ++ l.us)))
noncomputable def roundS (E : Env) (f j k : Nat) (vs args : List AV) (st : St) : Option (AV × St) :=
  match lpOf E f j with
  | none => none
  | some l => chk (l.ok vs args) (putAllS E.T l.tys l.us vs [] fun p => putAllS E.T l.tys l.ps args p fun p => runR (sx E f) l.n l.tys k l.a l.c p st)
theorem elemN_mem {n : Nat} : ∀ {l : List Nat}, elemN n l = true ↔ n ∈ l
  | [] => by simp [elemN]
  | m :: l => by simp [elemN, elemN_mem (l := l)]
theorem nodupN_cons {i : Nat} {l : List Nat} (h : nodupN (i :: l) = true) : i ∉ l ∧ nodupN l = true := by
  simp only [nodupN, Bool.and_eq_true, Bool.not_eq_true'] at h
  refine ⟨fun hm => ?_, h.2⟩
  rw [elemN_mem.2 hm] at h
  exact absurd h.1 (by decide)
theorem putPairs_other {i : Nat} : ∀ {us : List Nat} {vs : List AV} {t : Tr AV}, i ∉ us → (putPairs us vs t).get i = t.get i
  | [], _, _, _ => rfl
  | _ :: _, [], _, _ => rfl
  | u :: us, v :: vs, t, h => by
    simp only [putPairs]
    rw [putPairs_other (fun hm => h (List.mem_cons_of_mem _ hm)), Tr.get_put, if_neg (fun e => h (by rw [← e]; exact List.mem_cons_self))]
theorem putPairs_vals {N : Nat} : ∀ {us : List Nat} {vs : List AV} {t : Tr AV}, nodupN us = true → vs.length = us.length → Vals ⟨N, putPairs us vs t, true⟩ us vs
  | [], [], _, _, _ => rfl
  | [], _ :: _, _, _, h => by cases h
  | _ :: _, [], _, _, h => by cases h
  | u :: us, v :: vs, t, hn, hl => by
    obtain ⟨h1, h2⟩ := nodupN_cons hn
    refine ⟨v, vs, rfl, ?_, putPairs_vals h2 (by simpa using hl)⟩
    show (putPairs us vs (t.put u v)).get u = some v
    rw [putPairs_other h1, Tr.get_put, if_pos rfl]
theorem putArgs_n : ∀ {ps : List Nat} {args : List AV} {fr : Fr}, (putArgs ps args fr).n = fr.n
  | [], _, _ => rfl
  | _ :: _, [], _ => rfl
  | p :: ps, v :: vs, fr => by
    simp only [putArgs]
    rw [putArgs_n]
    simp only [Fr.put]
    split <;> rfl
theorem putArgs_other {i : Nat} : ∀ {ps : List Nat} {args : List AV} {fr : Fr}, i ∉ ps → belowN fr.n ps = true → (putArgs ps args fr).look i = fr.look i
  | [], _, _, _, _ => rfl
  | _ :: _, [], _, _, _ => rfl
  | p :: ps, v :: vs, fr, h, hb => by
    simp only [belowN, Bool.and_eq_true, Nat.blt_eq] at hb
    simp only [putArgs]
    rw [putArgs_other (fun hm => h (List.mem_cons_of_mem _ hm)) (by
      have : (fr.put (some p) v).n = fr.n := putArgs_n (ps := [p]) (args := [v])
      rw [this]; exact hb.2), look_put hb.1, if_neg (fun e => h (by rw [← e]; exact List.mem_cons_self))]
theorem putArgs_vals : ∀ {ps : List Nat} {args : List AV} {fr : Fr}, nodupN ps = true → belowN fr.n ps = true → args.length = ps.length → Vals (putArgs ps args fr) ps args
  | [], [], _, _, _, _ => rfl
  | [], _ :: _, _, _, _, h => by cases h
  | _ :: _, [], _, _, _, h => by cases h
  | p :: ps, v :: vs, fr, hn, hb, hl => by
    obtain ⟨h1, h2⟩ := nodupN_cons hn
    simp only [belowN, Bool.and_eq_true, Nat.blt_eq] at hb
    have hbn : belowN (fr.put (some p) v).n ps = true := by
      have : (fr.put (some p) v).n = fr.n := putArgs_n (ps := [p]) (args := [v])
      rw [this]; exact hb.2
    refine ⟨v, vs, rfl, ?_, putArgs_vals h2 hbn (by simpa using hl)⟩
    simp only [putArgs]
    rw [putArgs_other h1 hbn, look_put hb.1, if_pos rfl]
theorem vals_of {fr fr' : Fr} : ∀ {us : List Nat} {vs : List AV}, (∀ i ∈ us, fr'.look i = fr.look i) → Vals fr us vs → Vals fr' us vs
  | [], _, _, h => h
  | u :: _, _, he, ⟨v, vs', e, h1, h2⟩ => ⟨v, vs', e, (he u List.mem_cons_self).trans h1, vals_of (fun i hi => he i (List.mem_cons_of_mem _ hi)) h2⟩
theorem nodupN_app : ∀ {l m : List Nat}, nodupN (l ++ m) = true → nodupN l = true ∧ nodupN m = true ∧ ∀ i ∈ m, i ∉ l
  | [], m, h => ⟨rfl, h, fun _ _ => by simp⟩
  | i :: l, m, h => by
    obtain ⟨h1, h2⟩ := nodupN_cons h
    obtain ⟨a, b, c⟩ := nodupN_app (l := l) h2
    refine ⟨?_, b, fun x hx hm => ?_⟩
    · simp only [nodupN, a, Bool.and_true, Bool.not_eq_true']
      cases e : elemN i l with
      | false => rfl
      | true => exact absurd (List.mem_append_left _ (elemN_mem.1 e)) h1
    · rcases List.mem_cons.1 hm with rfl | hm
      · exact h1 (List.mem_append_right _ hx)
      · exact c x hx hm
theorem belowN_app {n : Nat} : ∀ {l m : List Nat}, belowN n (l ++ m) = true → belowN n l = true ∧ belowN n m = true
  | [], m, h => ⟨rfl, h⟩
  | i :: l, m, h => by
    simp only [List.cons_append, belowN, Bool.and_eq_true] at h ⊢
    exact ⟨⟨h.1, (belowN_app h.2).1⟩, (belowN_app h.2).2⟩
section
variable {E : Env} {r : AV × St}
theorem setLoopS_some {β : Type} {r : β} {k s0 s1 : Nat} {p : Ex} {st : St} {K : St → Option β} (h : setLoopS k s0 s1 p st K = some r) : ∃ st', setLoop k s0 s1 p st = .ok st' ∧ K st' = some r := by
  unfold setLoopS at h
  split at h
  · rename_i imm ps a c fr s q hg
    obtain ⟨h1, h⟩ := chk_some h
    exact ⟨_, by simp only [setLoop, hg, ok_bind, h1], h⟩
  · cases h
theorem runR_ok {S : Sx} (hO : OOk E S.O) {N : Nat} {tys : List (Nat × TypeId)} {k : Nat} {a c : Code} {p : PF} {fr : Fr} {st : St} (h : runR S N tys k a c p st = some r) (hs : Sub N p fr) (ha : straight a = true) (hc : straight c = true) :
    Evt fun n => roundE (cx S E n) n k a c fr st = .ok r := by
  unfold runR at h
  obtain ⟨ex, fr1, st1, p1, hev1, hs1, h⟩ := runS_ok hO a h hs fun _ => ha
  cases ex with
  | exit i => cases h
  | ret => cases h
  | normal =>
    obtain ⟨st2, e2, h⟩ := setLoopS_some h
    obtain ⟨ex, fr3, st3, p3, hev3, hs3, h⟩ := runS_ok hO c h hs1 fun _ => hc
    cases ex with
    | normal =>
      obtain ⟨st4, e4, h⟩ := setLoopS_some h
      cases h
      exact (hev1.both hev3).lift fun n hn => by simp only [roundE, hn.1, ok_bind, e2, hn.2, e4, pure_eq]
    | exit i =>
      obtain ⟨st4, e4, h⟩ := setLoopS_some h
      cases h
      exact (hev1.both hev3).lift fun n hn => by simp only [roundE, hn.1, ok_bind, e2, hn.2, e4, pure_eq]
    | ret =>
      obtain ⟨st4, e4, h⟩ := setLoopS_some h
      cases h
      exact (hev1.both hev3).lift fun n hn => by simp only [roundE, hn.1, ok_bind, e2, hn.2, e4, pure_eq]
theorem round_of {f j k : Nat} {vs args : List AV} {st : St} {p : Ex} (hg : st.get k = .ok (lpS E f j vs 0 p)) (hk : st.ro ≤ k) (h : roundS E f j k vs args st = some r) : (orc E).round k args st = some r := by
  unfold roundS at h
  split at h
  · cases h
  · rename_i l hl
    obtain ⟨hok, h⟩ := chk_some h
    simp only [Lp.ok, Bool.and_eq_true, Nat.beq_eq] at hok
    obtain ⟨⟨h1, h2⟩, ⟨h3, h4⟩, h5, h6⟩ := hok
    obtain ⟨n1, n2, n3⟩ := nodupN_app h5
    obtain ⟨b1, b2⟩ := belowN_app h6
    have hfn : (frOf l.n l.us vs).n = l.n := rfl
    have v0 : Vals (putArgs l.ps args (frOf l.n l.us vs)) l.us vs := vals_of (fun i hi => putArgs_other (n3 i hi) b1) (putPairs_vals n2 h2)
    have v1 : Vals (putArgs l.ps args (frOf l.n l.us vs)) l.ps args := putArgs_vals n1 b1 h1
    obtain ⟨p1, s1, h⟩ := putAllS_some h v0 ⟨by rw [putArgs_n], fun _ _ hx => by cases hx⟩
    obtain ⟨p2, s2, h⟩ := putAllS_some h v1 s1
    obtain ⟨m, hm⟩ := runR_ok (S := sx E f) (orc_ok E) h s2 h3 h4
    have hm := hm m (Nat.le_refl _)
    refine orc_round (n := m + 1) ?_
    have hl' : lpS E f j vs 0 p = .loop (E.imm f) l.ps l.a l.c (frOf l.n l.us vs) 0 p := by simp only [lpS, hl]
    rw [hl'] at hg
    have hk' : ((Nat.beq 0 0 && st.ro.ble k) && (args.length.beq l.ps.length && (straight l.a && straight l.c))) = true := by
      rw [Nat.ble_eq_true_of_le hk, h1, Nat.beq_refl, h3, h4]; simp
    simp only [caller, hg, ok_bind]
    rw [hk']
    exact hm
theorem rangeS_of {β : Type} {O : Orc} {g : FuncId} {cap : List AV} {lp : Obj} {st st1 : St} {v : AV} {K : Ex → St → Option β} {imm : TypeId → Bool} {ps : List Nat} {a c : Code} {fr : Fr} {s : Nat} {p : Ex}
    (h : O.wide g (.yld st.h :: cap) (st.add lp) = some (v, st1)) (hg : st1.get st.h = .ok (.loop imm ps a c fr s p)) (hs : s = 0 ∨ s = 2) : rangeS O (.fn (.func g) [] cap) lp st K = K p (st1.put st.h .dead) := by
  have e : (s.beq 0 || s.beq 2) = true := by rcases hs with rfl | rfl <;> rfl
  simp only [rangeS, h, bindO, endR, hg, e, chk]
theorem lpS_open {f j : Nat} (h : (lpOf E f j).isSome = true) (vs : List AV) : ∃ imm ps a c fr, ∀ s p, lpS E f j vs s p = .loop imm ps a c fr s p := by
  cases e : lpOf E f j with
  | none => rw [e] at h; cases h
  | some l => exact ⟨E.imm f, l.ps, l.a, l.c, frOf l.n l.us vs, fun s p => by simp only [lpS, e]⟩
theorem setLoopS_of {β : Type} {f j k s0 s1 : Nat} {vs : List AV} {p0 p : Ex} {st : St} (h : (lpOf E f j).isSome = true) (hg : st.get k = .ok (lpS E f j vs s0 p0)) (K : St → Option β) : setLoopS k s0 s1 p st K = K (st.put k (lpS E f j vs s1 p)) := by
  obtain ⟨imm, ps, a, c, fr, e⟩ := lpS_open h vs
  rw [e] at hg
  rw [e]
  simp only [setLoopS, hg, Nat.beq_refl, chk]
theorem lpS_tok {f j : Nat} (h : (lpOf E f j).isSome = true) (vs : List AV) (s : Nat) (p : Ex) (n : Nat) (e : TypeId) : lpS E f j vs s p ≠ .tok n e := by
  obtain ⟨imm, ps, a, c, fr, e'⟩ := lpS_open h vs
  rw [e']
  intro h
  cases h
theorem rangeS_lp {β : Type} {O : Orc} {g : FuncId} {cap : List AV} {lp : Obj} {st st1 : St} {v : AV} {K : Ex → St → Option β} {f j s : Nat} {vs : List AV} {p : Ex} (hj : (lpOf E f j).isSome = true)
    (h : O.wide g (.yld st.h :: cap) (st.add lp) = some (v, st1)) (hg : st1.get st.h = .ok (lpS E f j vs s p)) (hs : s = 0 ∨ s = 2) : rangeS O (.fn (.func g) [] cap) lp st K = K p (st1.put st.h .dead) := by
  obtain ⟨imm, ps, a, c, fr, e⟩ := lpS_open hj vs
  rw [e] at hg
  exact rangeS_of h hg hs
theorem callF_yld {β : Type} {O : Orc} {prim : FuncId → Option Prim} {k : Nat} {args : List AV} {st st' : St} {v : AV} (h : O.round k args st = some (v, st')) (K : Kv β) : callF O prim (.yld k) args st K = K v st' ⟨[], .all st st'⟩ := by
  show outS (yieldO O k args st) K = _
  simp only [yieldO, h, outS, bindO]
end
theorem jumpIf_same {β : Type} {x : Ex} {A B : Option β} : jumpIf x x A B = A := by simp only [jumpIf, decide_true, ifB]
abbrev un_bsisv {β : Type} (v : AV) (K : Int → List UInt8 → Int → List UInt8 → AV → Option β) : Option β := unA v fun l => unc l fun v0 l => asI .u8 v0 fun a0 => unc l fun v1 l => asS v1 fun a1 => unc l fun v2 l => asI .i64 v2 fun a2 => unc l fun v3 l => asS v3 fun a3 => unc l fun v4 l => un0 l (K a0 a1 a2 a3 v4)
abbrev un_ii {β : Type} (v : AV) (K : Int → Int → Option β) : Option β := unA v fun l => unc l fun v0 l => asI .i64 v0 fun a0 => unc l fun v1 l => asI .i64 v1 fun a1 => un0 l (K a0 a1)
abbrev un_iii {β : Type} (v : AV) (K : Int → Int → Int → Option β) : Option β := unA v fun l => unc l fun v0 l => asI .i64 v0 fun a0 => unc l fun v1 l => asI .i64 v1 fun a1 => unc l fun v2 l => asI .i64 v2 fun a2 => un0 l (K a0 a1 a2)
abbrev un_iiii {β : Type} (v : AV) (K : Int → Int → Int → Int → Option β) : Option β := unA v fun l => unc l fun v0 l => asI .i64 v0 fun a0 => unc l fun v1 l => asI .i64 v1 fun a1 => unc l fun v2 l => asI .i64 v2 fun a2 => unc l fun v3 l => asI .i64 v3 fun a3 => un0 l (K a0 a1 a2 a3)
abbrev un_is {β : Type} (v : AV) (K : Int → List UInt8 → Option β) : Option β := unA v fun l => unc l fun v0 l => asI .i64 v0 fun a0 => unc l fun v1 l => asS v1 fun a1 => un0 l (K a0 a1)
abbrev un_iv {β : Type} (v : AV) (K : Int → AV → Option β) : Option β := unA v fun l => unc l fun v0 l => asI .i64 v0 fun a0 => unc l fun v1 l => un0 l (K a0 v1)
abbrev un_oiiiis {β : Type} (v : AV) (K : Bool → Int → Int → Int → Int → List UInt8 → Option β) : Option β := unA v fun l => unc l fun v0 l => asB v0 fun a0 => unc l fun v1 l => asI .i64 v1 fun a1 => unc l fun v2 l => asI .i64 v2 fun a2 => unc l fun v3 l => asI .i64 v3 fun a3 => unc l fun v4 l => asI .i64 v4 fun a4 => unc l fun v5 l => asS v5 fun a5 => un0 l (K a0 a1 a2 a3 a4 a5)
abbrev un_sivivivivivivivivi {β : Type} (v : AV) (K : List UInt8 → Int → AV → Int → AV → Int → AV → Int → AV → Int → AV → Int → AV → Int → AV → Int → AV → Int → Option β) : Option β := unA v fun l => unc l fun v0 l => asS v0 fun a0 => unc l fun v1 l => asI .i64 v1 fun a1 => unc l fun v2 l => unc l fun v3 l => asI .i64 v3 fun a3 => unc l fun v4 l => unc l fun v5 l => asI .i64 v5 fun a5 => unc l fun v6 l => unc l fun v7 l => asI .i64 v7 fun a7 => unc l fun v8 l => unc l fun v9 l => asI .i64 v9 fun a9 => unc l fun v10 l => unc l fun v11 l => asI .i64 v11 fun a11 => unc l fun v12 l => unc l fun v13 l => asI .i64 v13 fun a13 => unc l fun v14 l => unc l fun v15 l => asI .i64 v15 fun a15 => unc l fun v16 l => unc l fun v17 l => asI .i64 v17 fun a17 => un0 l (K a0 a1 v2 a3 v4 a5 v6 a7 v8 a9 v10 a11 v12 a13 v14 a15 v16 a17)
abbrev un_sv {β : Type} (v : AV) (K : List UInt8 → AV → Option β) : Option β := unA v fun l => unc l fun v0 l => asS v0 fun a0 => unc l fun v1 l => un0 l (K a0 v1)
end Go.VM
