/-
  A part of the proof.
-/
import Derived.Test.YtkknkhniadiapaaDoorVmAJ
import Derived.Lib.Bytealg
namespace Go.VM
section
variable {P : Program} {T : TT} {G : Nat → Option (List AV)} {A : Nat → Prop} {g : Gh} {st : St} {w : World}
def OnePrim (P : Program) (T : TT) (G : Nat → Option (List AV)) (f : FuncId) (q : Prim) : Prop :=
  ∀ C args p v fx st A g w xs, GR g G → primP q args = .ok p → runPlan C st p = .ok (v, fx) → RL g args xs → Inv T A g st w → CallWp P f xs.toArray w (Post T A g (fx.did.app st) w v)
theorem primOk_of {prim : FuncId → Option Prim} (h : ∀ f q, prim f = some q → OnePrim P T G f q) : PrimOk P T G prim := h
theorem Post.same (h : Inv T A g st w) {v : AV} {x : Value} (hr : R g v x) : Post T A g st w v x w := ⟨g, hr, h, Kp.refl _ _ _⟩
theorem RL2 {a b : AV} {xs : List Value} (h : RL g [a, b] xs) : ∃ x y, xs = [x, y] ∧ R g a x ∧ R g b y := by
  simp only [RL] at h
  obtain ⟨x, ys, rfl, h1, y, zs, rfl, h2, rfl⟩ := h
  exact ⟨x, y, rfl, h1, h2⟩
theorem RL1 {a : AV} {xs : List Value} (h : RL g [a] xs) : ∃ x, xs = [x] ∧ R g a x := by
  simp only [RL] at h
  obtain ⟨x, ys, rfl, h1, rfl⟩ := h
  exact ⟨x, rfl, h1⟩
theorem lies_ok {l : List (TypeId × Nat × Nat)} {t : TypeId} {n off : Nat} (h : lies l t n off = true) : (t, n, off) ∈ l ∧ t < 1000000 := by
  induction l with
  | nil => simp [lies] at h
  | cons x l ih =>
    obtain ⟨a, b, c⟩ := x
    simp only [lies, Bool.or_eq_true, Bool.and_eq_true, Nat.beq_eq] at h
    rcases h with ⟨⟨⟨rfl, rfl⟩, rfl⟩, h⟩ | h
    · exact ⟨List.mem_cons_self, blt_true.1 h⟩
    · exact ⟨List.mem_cons_of_mem _ (ih h).1, (ih h).2⟩
theorem nthAV_get : ∀ {l : List AV} {n : Nat} {v : AV}, nthAV l n = .ok v → l[n]? = some v
  | [], n, v, h => by cases n <;> simp [nthAV] at h
  | a :: l, 0, v, h => by simpa [nthAV] using h
  | a :: l, n + 1, v, h => by
    simp only [nthAV] at h
    simpa using nthAV_get h
theorem RL_get {l : List AV} {xs : List Value} (h : RL g l xs) {n : Nat} {v : AV} (hv : l[n]? = some v) : ∃ x, xs[n]? = some x ∧ R g v x := by
  induction l generalizing n xs with
  | nil => simp at hv
  | cons a l ih =>
    simp only [RL] at h
    obtain ⟨x, ys, rfl, h1, h2⟩ := h
    cases n with
    | zero => simp at hv; subst hv; exact ⟨x, rfl, h1⟩
    | succ n => simpa using ih h2 (by simpa using hv)
structure CopyOk (P : Program) (f : FuncId) (l : List (TypeId × Nat × Nat)) : Prop where
  enter : ∀ args w, (callFunc f args).run P w = .ok (.enter f args) w
  used : ∀ (b o : Nat) (w : World), w.cell? ⟨b, o, none⟩ = some (.pointer (some ⟨b, o, none⟩)) →
    Calls P f #[.pointer (some ⟨b, o, none⟩)] w fun e w' => e = .returned (.tuple #[]) ∧ w' = w
  fresh : ∀ (b o : Nat) (w : World) (e : TypeId) (n : Nat), w.cell? ⟨b, o, none⟩ = some (.pointer none) → w.shape? b = some (e, n) → o < n → w.frozen? ⟨b, o, none⟩ = false → (e, n, o) ∈ l →
    Calls P f #[.pointer (some ⟨b, o, none⟩)] w fun e w' => e = .returned (.tuple #[]) ∧ w' = w.setCell ⟨b, o, none⟩ (.pointer (some ⟨b, o, none⟩))
theorem primP_copyCheck {l : List (TypeId × Nat × Nat)} {args : List AV} {p : Plan} (h : primP (.copyCheck l) args = .ok p) : ∃ id off, args = [.mp id off] ∧ p = .obj id (fun o => do
      let (t, cs) ← typedOf o
      match (lies l t cs.length off) with
      | false => .error "copyCheck: where?"
      | true => do
        match ← nthAV cs off with
        | .nilp => pure (.tup [], some (.cells t (splice cs off [.mp id off])))
        | .mp id' off' => match id'.beq id && off'.beq off with
          | true => pure (.tup [], none)
          | false => .error "copyCheck"
        | _ => .error "copyCheck") := by
  unfold primP at h
  split at h <;> first | (rename_i e; cases e; simp only [Except.ok.injEq] at h; subst h; exact ⟨_, _, rfl, rfl⟩) | simp_all
theorem copyCheck_prim {f : FuncId} {l : List (TypeId × Nat × Nat)} (hC : CopyOk P f l) : OnePrim P T G f (.copyCheck l) := by
  intro C args p v fx st A g w xs _ hp hr hx h
  obtain ⟨id, off, rfl, rfl⟩ := primP_copyCheck hp
  obtain ⟨x, rfl, h1⟩ := RL1 hx
  simp only [R] at h1
  obtain ⟨b, hE, rfl⟩ := h1
  simp only [runPlan, bind_ok, pure_ok] at hr
  obtain ⟨o, r1, ⟨v', o'⟩, ⟨⟨t, cs⟩, r2, r3⟩, d, r4, r5⟩ := hr
  rw [typedOf_ok] at r2
  subst r2
  simp only [Prod.mk.injEq] at r5
  obtain ⟨rfl, rfl⟩ := r5
  obtain ⟨b', vs, rest, ty2, k1, k2, k3, k4, k5, k6⟩ := h.cells r1
  have hb : b' = b := by have := k1.symm.trans hE; simpa using this
  subst hb
  dsimp only at r3
  split at r3
  · cases r3
  · rename_i hl
    obtain ⟨hl, hsm⟩ := lies_ok hl
    obtain ⟨rfl, ht⟩ := k6 hsm
    subst ht
    simp only [Array.append_empty] at k2
    simp only [bind_ok] at r3
    obtain ⟨u, r6, r7⟩ := r3
    have hu := nthAV_get r6
    obtain ⟨y, hy, hry⟩ := RL_get k3 hu
    have hy' : vs[off]? = some y := by simpa using hy
    have hlen := RL_len k3
    simp only [Array.length_toList] at hlen
    split at r7
    · simp only [pure_ok, Prod.mk.injEq] at r7
      obtain ⟨rfl, rfl⟩ := r7
      simp only [didOf] at r4
      split at r4
      · cases r4
      · rename_i hro
        rw [blt_false] at hro
        simp only [Except.ok.injEq] at r4
        subst r4
        simp only [R] at hry
        subst hry
        have hlt : off < vs.size := by
          rcases Nat.lt_or_ge off vs.size with q | q
          · exact q
          · simp [Array.getElem?_eq_none q] at hy'
        have hnew : RL g [.mp id off] [Value.pointer (some ⟨b', off, none⟩)] := RL_cons (by simp only [R]; exact ⟨b', hE, rfl⟩) RL_nil
        obtain ⟨w1, w2⟩ := h.rewrite (rest := #[]) r1 k1 (by simpa using k2) k5 (fun _ => ⟨rfl, rfl⟩) hro (cs' := splice cs off [.mp id off]) (vs' := vs.toList.take off ++ [Value.pointer (some ⟨b', off, none⟩)] ++ vs.toList.drop (off + 1))
          (by simpa using splice_RL off k3 hnew) (fun u hu => by
            simp only [List.mem_append, List.mem_singleton] at hu
            rcases hu with (hu | rfl) | hu
            · exact k4 u (List.mem_of_mem_take hu)
            · rfl
            · exact k4 u (List.mem_of_mem_drop hu))
        simp only [Array.append_empty] at w1 w2
        have hset : w.setCell ⟨b', off, none⟩ (.pointer (some ⟨b', off, none⟩)) = w.setRow b' (vs.toList.take off ++ [Value.pointer (some ⟨b', off, none⟩)] ++ vs.toList.drop (off + 1)).toArray := by
          rw [setCell_eq_setRow w b' off vs _ (0, 0) _ k2]
          congr 1
          apply Array.ext'
          rw [Array.toList_setIfInBounds, List.set_eq_take_append_cons_drop, if_pos (by simpa using hlt)]
          simp
        refine .inr ⟨hC.enter _ _, (hC.fresh b' off w ty2 vs.size (by rw [cell_of k2]; exact hy') (by simp [World.shape?, k2]) hlt (by simp [World.frozen?, k2]) (by rw [hlen]; exact hl)).mono ?_⟩
        rintro e w' ⟨rfl, rfl⟩
        rw [hset]
        exact ⟨_, rfl, g, by simp [R, RL], w1, w2⟩
    · rename_i id' off'
      split at r7
      · rename_i hs
        simp only [Bool.and_eq_true, Nat.beq_eq] at hs
        obtain ⟨rfl, rfl⟩ := hs
        simp only [pure_ok, Prod.mk.injEq] at r7
        obtain ⟨rfl, rfl⟩ := r7
        simp only [didOf, Except.ok.injEq] at r4
        subst r4
        simp only [R] at hry
        obtain ⟨b2, hE2, rfl⟩ := hry
        have : b2 = b' := by have := hE2.symm.trans hE; simpa using this
        subst this
        refine .inr ⟨hC.enter _ _, (hC.used b2 _ w (by rw [cell_of k2]; exact hy')).mono ?_⟩
        rintro e w' ⟨rfl, rfl⟩
        exact ⟨_, rfl, Post.same h (by simp [R, RL])⟩
      · cases r7
    · cases r7
theorem Inv.get_congr (h : Inv T A g st w) {st' : St} (hg : ∀ i, st'.get i = st.get i) (hh : st'.h = st.h) (hr : st'.ro = st.ro) : Inv T A g st' w where
  F := h.F
  M := h.M
  E id hid := h.E id (by omega)
  H id o ho := h.H id o (by rw [← hg]; exact ho)
  D id id' o o' b h1 h2 := h.D id id' o o' b (by rw [← hg]; exact h1) (by rw [← hg]; exact h2)
  own id o b h1 h2 h3 := h.own id o b (by rw [← hg]; exact h1) h2 (by omega)
  up := h.up
  C c := ⟨(h.C c).1, fun id o b h1 h2 => (h.C c).2 id o b (by rw [← hg]; exact h1) h2⟩
structure StringOk (P : Program) (T : TT) (f : FuncId) (u8 : TypeId) : Prop where
  enter : ∀ args w, (callFunc f args).run P w = .ok (.enter f args) w
  size : ∀ i, T.get u8 = some i → i.size = 1
  nothing : ∀ (b o : Nat) (w : World), w.cell? ⟨b, o + 1, none⟩ = some (.slice none 0 0) →
    Calls P f #[.pointer (some ⟨b, o, none⟩)] w fun e w' => e = .returned (.string .empty) ∧ w' = w.drew
  bytes : ∀ (b o g n cap : Nat) (w : World) (l : List UInt8), l ≠ [] → l.length = n → w.cell? ⟨b, o + 1, none⟩ = some (.slice (some ⟨g, 0, none⟩) n cap) → n ≤ cap → n < 4611686018427387904 →
    ∀ size, n ≤ size → w.shape? g = some (u8, size) → (∀ j x, l[j]? = some x → w.cell? ⟨g, j, none⟩ = some (.int .u8 x.toNat)) →
    Calls P f #[.pointer (some ⟨b, o, none⟩)] w fun e w' => e = .returned (.string ⟨l.toArray⟩) ∧ w' = w.drew.freeze ⟨g, 0, none⟩ n
theorem strictBytes_vals : ∀ {es : List AV} {bs : List UInt8} {xs : List Value}, strictBytes es = .ok bs → RL g es xs → xs = bs.map fun (x : UInt8) => Value.int .u8 (x.toNat : Int)
  | [], _, _, h, hr => by
    simp only [strictBytes, Except.ok.injEq] at h; subst h
    simp only [RL] at hr; subst hr; rfl
  | e :: es, bs, xs, h, hr => by
    simp only [RL] at hr
    obtain ⟨x, xs, rfl, h1, h2⟩ := hr
    unfold strictBytes at h
    split at h
    · rename_i heq; cases heq
    · rename_i n l heq
      cases heq
      split at h
      · rename_i k
        split at h
        · rename_i hk
          rw [blt_true] at hk
          simp only [bind_ok, pure_ok] at h
          obtain ⟨bs', h3, rfl⟩ := h
          rw [strictBytes_vals h3 h2]
          simp only [R] at h1
          subst h1
          simp only [List.map_cons, List.cons.injEq, Value.int.injEq, true_and, and_true]
          have : (UInt8.ofNat k).toNat = k := by simp; omega
          rw [this]; rfl
        · cases h
      · cases h
    · cases h
theorem strictBytes_flat : ∀ {es : List AV} {bs : List UInt8}, strictBytes es = .ok bs → flat es = es
  | [], _, _ => rfl
  | e :: es, bs, h => by
    unfold strictBytes at h
    split at h
    · rename_i heq; cases heq
    · rename_i n l heq
      cases heq
      split at h
      · split at h
        · simp only [bind_ok, pure_ok] at h
          obtain ⟨bs', h3, rfl⟩ := h
          rw [flat_cons, strictBytes_flat h3]; rfl
        · cases h
      · cases h
    · cases h
theorem primP_string {u8 : TypeId} {args : List AV} {p : Plan} (h : primP (.builderString u8) args = .ok p) : ∃ id off, args = [.mp id off] ∧ p = .both id
      (fun o => do
        match ← nthAV (← cellsOf o) (off + 1) with
        | .nils => pure none
        | .sl 1 _ (.own k) => pure (some k)
        | _ => .error "Builder.String")
      (fun o o' => do
        match ← nthAV (← cellsOf o) (off + 1), o' with
        | .nils, _ => pure (.str [])
        | .sl 1 e (.own _), some (.tok n ty) => match ty.beq u8 && n.beq e.length && !e.isEmpty && n.blt 4611686018427387904 with
          | true => do pure (.str (← strictBytes e))
          | false => .error "Builder.String: bytes"
        | _, _ => .error "Builder.String") := by
  unfold primP at h
  split at h <;> first | (rename_i e; cases e; simp only [Except.ok.injEq] at h; subst h; exact ⟨_, _, rfl, rfl⟩) | simp_all
theorem Inv.freeze (h : Inv T A g st w) (hC : ¬ g.C) {k n u : Nat} (hk : st.get k = .ok (.tok n u)) (hro : st.ro ≤ k) (hu : ∀ i, T.get u = some i → i.size = 1) {loc : Nat → Option (Nat × Nat)} {b cap : Nat}
    (hE : g.E k = some (.tok loc)) (hl : loc n = some (b, cap)) : Inv T A g st (w.freeze ⟨b, 0, none⟩ n) ∧ Kp A g w g (w.freeze ⟨b, 0, none⟩ n) := by
  by_cases hn : n = 0
  · subst hn
    exact ⟨h, Kp.refl _ _ _⟩
  obtain ⟨loc', b', cap', i, vs, fz, q1, q2, q3, q4, q5, q6, q7, q8, q9, q10⟩ := h.H k _ hk
  have e1 := q1.symm.trans hE
  simp only [Option.some.injEq, Ent.tok.injEq] at e1
  subst e1
  have e2 := q2.symm.trans hl
  simp only [Option.some.injEq, Prod.mk.injEq] at e2
  obtain ⟨rfl, rfl⟩ := e2
  have hsz := hu i q4
  rw [hsz] at q8 q9 q10
  have hlt := lt_of_heap q7
  have heap : (w.freeze ⟨b', 0, none⟩ n).heap[b']? = some (.cells vs u (if fz.1 == fz.2 then (0, 0 + n) else (min fz.1 0, max fz.2 (0 + n)))) := by
    unfold World.freeze
    rw [if_neg hn]
    simp only [Array.getElem?_modify, if_pos, q7, Option.map_some]
  have other : ∀ c, c ≠ b' → (w.freeze ⟨b', 0, none⟩ n).heap[c]? = w.heap[c]? := fun c hc => by
    unfold World.freeze
    rw [if_neg hn]
    simp only [Array.getElem?_modify]
    rw [if_neg (fun e => hc e.symm)]
  have size : (w.freeze ⟨b', 0, none⟩ n).heap.size = w.heap.size := by
    unfold World.freeze
    rw [if_neg hn]
    simp
  have hat : At g k (.tok n u) b' := ⟨_, _, hE, hl⟩
  have hw := h.write (hU := fun c => absurd c hC) hk hat (.tok n u) (w' := w.freeze ⟨b', 0, none⟩ n) size other (fun j v hv => by
      have := h.F b' j v hv
      rw [cell_of q7] at this
      rw [cell_of heap]; exact this)
    (by
      cases hm : g.M b' with
      | none => rfl
      | some e =>
        have := h.M b' e.1 e.2 hm
        rw [q7] at this; cases this)
    (fun c hc => by
      obtain ⟨loc2, cap2, z1, z2⟩ := hc
      have e1 := z1.symm.trans hE
      simp only [Option.some.injEq, Ent.tok.injEq] at e1
      subst e1
      have e2 := z2.symm.trans hl
      simp only [Option.some.injEq, Prod.mk.injEq] at e2
      exact e2.1)
    ⟨_, b', cap', i, vs, _, hE, hl, q3, q4, q5, q6, heap, by rw [hsz]; exact q8, by
      rw [hsz]
      split
      · simp
      · simp only [Nat.zero_add]; omega, by rw [hsz]; exact q10⟩
  have hlt' := (St.get_ok.1 hk).1
  refine ⟨hw.get_congr (fun j => ?_) rfl rfl, Kp.write (h.own k _ b' hk hat hro) size other ?_⟩
  · by_cases hj : k = j
    · subst hj; rw [St.get_put_same hlt', hk]
    · rw [St.get_put_ne hj]
  · unfold World.freeze
    rw [if_neg hn]
    exact ⟨rfl, rfl, rfl⟩
theorem builderString_prim {f : FuncId} {u8 : TypeId} (hC : StringOk P T f u8) (hm : ∃ cs, G mark0 = some cs) : OnePrim P T G f (.builderString u8) := by
  intro C args p v fx st A g w xs hG hp hr hx h
  have hnC : ¬ g.C := by
    obtain ⟨cs, hcs⟩ := hm
    exact (hG _ _ hcs).2.2 rfl
  obtain ⟨id, off, rfl, rfl⟩ := primP_string hp
  obtain ⟨x, rfl, h1⟩ := RL1 hx
  simp only [R] at h1
  obtain ⟨b, hE, rfl⟩ := h1
  simp only [runPlan, bind_ok] at hr
  obtain ⟨o, r1, r, ⟨cs, r2, u, r3, r4⟩, r5⟩ := hr
  rw [cellsOf_ok] at r2
  obtain ⟨t, rfl⟩ := r2
  obtain ⟨b', vs, rest, ty2, k1, k2, k3, k4, k5, k6⟩ := h.cells r1
  have hb : b' = b := by have := k1.symm.trans hE; simpa using this
  subst hb
  have hu := nthAV_get r3
  obtain ⟨y, hy, hry⟩ := RL_get k3 hu
  have hy' : vs[off + 1]? = some y := by simpa using hy
  have hc : w.cell? ⟨b', off + 1, none⟩ = some y := cell_pre k2 hy'
  split at r4
  · simp only [pure_ok] at r4
    subst r4
    simp only [bind_ok, pure_ok, cellsOf, Prod.mk.injEq] at r5
    obtain ⟨s, ⟨cs', e1, u', e2, e3⟩, rfl, rfl⟩ := r5
    simp only [Except.ok.injEq] at e1
    subst e1
    rw [r3] at e2
    simp only [Except.ok.injEq] at e2
    subst e2
    simp only [pure_ok] at e3
    subst e3
    simp only [R] at hry
    subst hry
    refine .inr ⟨hC.enter _ _, (hC.nothing b' off w hc).mono ?_⟩
    rintro e w' ⟨rfl, rfl⟩
    exact ⟨_, rfl, g, by simp only [R]; rfl, h.drew, Kp.drew _ _ _⟩
  · rename_i e k
    simp only [pure_ok] at r4
    subst r4
    dsimp only at r5
    split at r5
    · rename_i hro
      have hro := Nat.le_of_ble_eq_true hro
      simp only [bind_ok, pure_ok, Prod.mk.injEq] at r5
      obtain ⟨o', r6, s, ⟨cs', e1, u', e2, e3⟩, rfl, rfl⟩ := r5
      simp only [cellsOf, Except.ok.injEq] at e1
      subst e1
      rw [r3] at e2
      simp only [Except.ok.injEq] at e2
      subst e2
      split at e3
      · rename_i heq; cases heq
      · rename_i es k' n ty heq1 heq2
        cases heq1
        cases heq2
        split at e3
        · rename_i hch
          simp only [Bool.and_eq_true, Nat.beq_eq, Bool.not_eq_true', List.isEmpty_eq_false_iff] at hch
          obtain ⟨⟨⟨rfl, rfl⟩, hne⟩, hbl⟩ := hch
          rw [blt_true] at hbl
          simp only [bind_ok, pure_ok] at e3
          obtain ⟨bs, e4, rfl⟩ := e3
          simp only [R] at hry
          obtain ⟨_, b2, o2, cap, rfl, hcap, _, hat, rfl, loc, hEk, hloc⟩ := hry
          obtain ⟨loc', b3, cap', i, ws, fz, q1, q2, q3, q4, q5, q6, q7, q8, q9, q10⟩ := h.H k _ r6
          have e1 := q1.symm.trans hEk
          simp only [Option.some.injEq, Ent.tok.injEq] at e1
          subst e1
          have e2 := q2.symm.trans hloc
          simp only [Option.some.injEq, Prod.mk.injEq] at e2
          obtain ⟨rfl, rfl⟩ := e2
          have hsz := hC.size i q4
          rw [RAtE_iff] at hat
          rw [strictBytes_flat e4] at hat
          obtain ⟨xs, m1, m2⟩ := RAt_vals hat.2
          have hbs := strictBytes_vals e4 m1
          have hlen : bs.length = e.length := by have := RL_len m1; rw [hbs] at this; simpa using this
          refine .inr ⟨hC.enter _ _, (hC.bytes b' off b3 e.length cap' w bs (fun hh => ?_) hlen hc hcap hbl ws.size (by rw [q8, hsz]; omega) (by simp [World.shape?, q7]) fun j x hj => ?_).mono ?_⟩
          · subst hh; simp at hlen; exact hne (List.length_eq_zero_iff.1 hlen.symm)
          · have : xs[j]? = some (Value.int .u8 x.toNat) := by rw [hbs]; simp [hj]
            have := (m2 j _ this).1
            rw [Nat.zero_add] at this
            exact h.F _ _ _ this
          · rintro e' w' ⟨rfl, rfl⟩
            obtain ⟨f1, f2⟩ := (h.drew).freeze hnC r6 hro hC.size hEk hloc
            exact ⟨_, rfl, g, by simp only [R], f1, (Kp.drew _ _ _).trans f2⟩
        · cases e3
      · cases e3
    · cases r5
  · cases r4
theorem lies_of {l : List (TypeId × Nat × Nat)} {bt e n o : Nat} (h : (l.all fun x => liesAt P P.depth x.1 (x.2.1 / P.cellsOf x.1) x.2.2 bt 1) = true) (hm : (e, n, o) ∈ l) : liesAt P P.depth e (n / P.cellsOf e) o bt 1 = true :=
  List.all_eq_true.1 h _ hm
theorem size_of {u : TypeId} (h : (T.get u).all (fun i => i.size.beq 1) = true) : ∀ i, T.get u = some i → i.size = 1 := fun i hi => by
  rw [hi] at h; exact Nat.eq_of_beq_eq_true h
end
end Go.VM
