/- Code, bodies, calls. -/
import Derived.Test.YtjagieigmleneajGreatDoorVmReg3
import Derived.LoopN
import Derived.Scope
namespace Go.VM

/-- Every region of the code that draws its order is fit. -/
def codeOk : Code → Bool
  | .region _ ops draw => !draw || regionOk ops.toList
  | .seq a b => codeOk a && codeOk b
  | .cond _ a b => codeOk a && codeOk b
  | .block _ c => codeOk c
  | .loop c => codeOk c
  | .scope c => codeOk c
  | _ => true

def Ex.to : Ex → Exit
  | .normal => .normal
  | .exit id => .exit id
  | .ret => .ret

section
variable {P : Program} {A : Nat → Prop}
theorem iter_sound {X : Cx} {c : Code} {Q : Exit → Act → World → Prop} {body : Fr → St → Res (Ex × Fr × St)}
    (hb : ∀ fr st ex fr' st' g a w (Q : Exit → Act → World → Prop), body fr st = .ok (ex, fr', st') → Rel X A g fr st a w → (∀ a' g' w', Rel X A g' fr' st' a' w' → Kp A g w g' w' → Q ex.to a' w') → c.wp P Q a w) :
    ∀ (n : Nat) {fr fr' : Fr} {st st' : St} {ex : Ex} {g : Gh} {a : Act} {w : World}, iter body n fr st = .ok (ex, fr', st') → Rel X A g fr st a w → (∀ a' g' w', Rel X A g' fr' st' a' w' → Kp A g w g' w' → Q ex.to a' w') → Code.rounds P c Q n a w
  | 0, _, _, _, _, _, _, _, _, h, _, _ => by simp [iter] at h
  | n + 1, fr, fr', st, st', ex, g, a, w, h, hr, hQ => by
    simp only [iter, bind_ok] at h
    obtain ⟨⟨ex1, fr1, st1⟩, h1, h2⟩ := h
    rw [rounds_succ]
    refine hb fr st ex1 fr1 st1 g a w _ h1 hr fun a' g' w' hr' hk => ?_
    cases ex1 with
    | normal => exact iter_sound hb n h2 hr' fun a'' g'' w'' hr'' hk' => hQ a'' g'' w'' hr'' (hk.trans hk')
    | exit id =>
      simp only [pure_ok, Prod.mk.injEq] at h2
      obtain ⟨rfl, rfl, rfl⟩ := h2
      exact hQ a' g' w' hr' hk
    | ret =>
      simp only [pure_ok, Prod.mk.injEq] at h2
      obtain ⟨rfl, rfl, rfl⟩ := h2
      exact hQ a' g' w' hr' hk

theorem exec_sound {X : Cx} (hX : Good P X) (hm : P.follows .mixedOrders = true) (n : Nat) : ∀ (c : Code), codeOk c = true → ∀ (fr : Fr) (st : St) (ex : Ex) (fr' : Fr) (st' : St) (g : Gh) (a : Act) (w : World) (Q : Exit → Act → World → Prop),
    exec X n c fr st = .ok (ex, fr', st') → Rel X A g fr st a w → (∀ a' g' w', Rel X A g' fr' st' a' w' → Kp A g w g' w' → Q ex.to a' w') → c.wp P Q a w
  | .skip, _, fr, st, ex, fr', st', g, a, w, Q, h, hr, hQ => by
    simp only [exec, Except.ok.injEq, Prod.mk.injEq] at h
    obtain ⟨rfl, rfl, rfl⟩ := h
    exact wp_skip (hQ a g w hr (Kp.refl _ _ _))
  | .label _, _, fr, st, ex, fr', st', g, a, w, Q, h, hr, hQ => by
    simp only [exec, Except.ok.injEq, Prod.mk.injEq] at h
    obtain ⟨rfl, rfl, rfl⟩ := h
    exact wp_label (hQ a g w hr (Kp.refl _ _ _))
  | .exit id, _, fr, st, ex, fr', st', g, a, w, Q, h, hr, hQ => by
    simp only [exec, Except.ok.injEq, Prod.mk.injEq] at h
    obtain ⟨rfl, rfl, rfl⟩ := h
    exact wp_exit (hQ a g w hr (Kp.refl _ _ _))
  | .ret, _, fr, st, ex, fr', st', g, a, w, Q, h, hr, hQ => by
    simp only [exec, Except.ok.injEq, Prod.mk.injEq] at h
    obtain ⟨rfl, rfl, rfl⟩ := h
    exact wp_ret (hQ a g w hr (Kp.refl _ _ _))
  | .region id ops draw, hc, fr, st, ex, fr', st', g, a, w, Q, h, hr, hQ => by
    simp only [exec, bind_ok, pure_ok, Prod.mk.injEq] at h
    obtain ⟨⟨fr1, st1⟩, h1, rfl, rfl, rfl⟩ := h
    refine region_sound hX hm (fun hd => ?_) h1 hr hQ
    simp only [codeOk, hd, Bool.not_true, Bool.false_or] at hc
    exact hc
  | .seq x y, hc, fr, st, ex, fr', st', g, a, w, Q, h, hr, hQ => by
    simp only [codeOk, Bool.and_eq_true] at hc
    simp only [exec, bind_ok] at h
    obtain ⟨⟨ex1, fr1, st1⟩, h1, h2⟩ := h
    refine wp_seq (exec_sound hX hm n x hc.1 fr st ex1 fr1 st1 g a w _ h1 hr fun a' g' w' hr' hk => ?_)
    cases ex1 with
    | normal => exact exec_sound hX hm n y hc.2 fr1 st1 ex fr' st' g' a' w' Q h2 hr' fun a'' g'' w'' hr'' hk' => hQ a'' g'' w'' hr'' (hk.trans hk')
    | exit id =>
      simp only [pure_ok, Prod.mk.injEq] at h2
      obtain ⟨rfl, rfl, rfl⟩ := h2
      exact hQ a' g' w' hr' hk
    | ret =>
      simp only [pure_ok, Prod.mk.injEq] at h2
      obtain ⟨rfl, rfl, rfl⟩ := h2
      exact hQ a' g' w' hr' hk
  | .cond c x y, hc, fr, st, ex, fr', st', g, a, w, Q, h, hr, hQ => by
    simp only [codeOk, Bool.and_eq_true] at hc
    simp only [exec, bind_ok] at h
    obtain ⟨cv, h1, b, h2, h3⟩ := h
    have hcv := evalO_sound hr.G hr.fr h1
    cases cv <;> simp only [VM.asBool, Except.ok.injEq] at h2 <;> (try (cases h2; done))
    subst h2
    simp only [R] at hcv
    rename_i b
    refine wp_cond hcv ?_
    cases b with
    | true => exact exec_sound hX hm n x hc.1 fr st ex fr' st' g a w Q h3 hr hQ
    | false => exact exec_sound hX hm n y hc.2 fr st ex fr' st' g a w Q h3 hr hQ
  | .block id c, hc, fr, st, ex, fr', st', g, a, w, Q, h, hr, hQ => by
    simp only [codeOk] at hc
    simp only [exec, bind_ok] at h
    obtain ⟨⟨ex1, fr1, st1⟩, h1, h2⟩ := h
    refine wp_block (exec_sound hX hm n c hc fr st ex1 fr1 st1 g a w _ h1 hr fun a' g' w' hr' hk => ?_)
    cases ex1 with
    | normal =>
      simp only [pure_ok, Prod.mk.injEq] at h2
      obtain ⟨rfl, rfl, rfl⟩ := h2
      exact hQ a' g' w' hr' hk
    | exit i =>
      simp only at h2
      simp only [Ex.to, Exit.inBlock]
      split at h2
      · rename_i hi
        have hi := Nat.eq_of_beq_eq_true hi
        simp only [pure_ok, Prod.mk.injEq] at h2
        obtain ⟨rfl, rfl, rfl⟩ := h2
        rw [if_pos hi]
        exact hQ a' g' w' hr' hk
      · rename_i hi
        have hi : i ≠ id := fun e => by subst e; simp at hi
        simp only [pure_ok, Prod.mk.injEq] at h2
        obtain ⟨rfl, rfl, rfl⟩ := h2
        rw [if_neg hi]
        exact hQ a' g' w' hr' hk
    | ret =>
      simp only [pure_ok, Prod.mk.injEq] at h2
      obtain ⟨rfl, rfl, rfl⟩ := h2
      exact hQ a' g' w' hr' hk
  | .loop c, hc, fr, st, ex, fr', st', g, a, w, Q, h, hr, hQ => by
    simp only [codeOk] at hc
    simp only [exec] at h
    refine wp_loop_rounds n (iter_sound (fun fr st ex fr' st' g a w Q h hr hQ => exec_sound hX hm n c hc fr st ex fr' st' g a w Q h hr hQ) n h hr hQ)
  | .rangeFunc _ _ _ _, _, _, _, _, _, _, _, _, _, _, h, _, _ => by simp [exec] at h
  | .scope c, hc, fr, st, ex, fr', st', g, a, w, Q, h, hr, hQ => by
    simp only [codeOk] at hc
    simp only [exec] at h
    refine wp_scope_straight (exec_sound hX hm n c hc fr st ex fr' st' g a w _ h hr fun a' g' w' hr' hk => ?_)
    cases ex <;> exact hQ a' g' w' hr' hk
  | .goto _, _, _, _, _, _, _, _, _, _, _, h, _, _ => by simp [exec] at h
  | .refuse _, _, _, _, _, _, _, _, _, _, _, h, _, _ => by simp [exec] at h
end
end Go.VM
