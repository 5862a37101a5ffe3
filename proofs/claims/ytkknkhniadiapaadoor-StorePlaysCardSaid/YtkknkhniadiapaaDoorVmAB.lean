/-
  A part of the proof.
-/
import Derived.Test.YtkknkhniadiapaaDoorVmAA
import Derived.Calls
import Derived.Laws.World
import Derived.Laws.Sem
import Derived.Orders
namespace Go.VM
inductive Ent where
  | blk (b : Nat)
  | tok (loc : Nat → Option (Nat × Nat))
structure Gh where
  F : Nat → Nat → Option Value
  M : Nat → Option (List MapEntry × Nat)
  E : Nat → Option Ent
  C : Prop
def permR (g : Gh) (p : Perm) (n b o cap : Nat) : Prop :=
  match p with
  | .shut => cap = n
  | .wide => True
  | .own k => o = 0 ∧ ∃ loc, g.E k = some (.tok loc) ∧ loc n = some (b, cap)
mutual
def R (g : Gh) : AV → Value → Prop
  | .bool b, x => x = .bool b
  | .int k n, x => x = .int k n
  | .str s, x => x = .string ⟨s.toArray⟩
  | .flt k b, x => x = .float k b
  | .nilp, x => x = .pointer none
  | .ip cs, x => bares cs = true ∧ ∃ b o, x = .pointer (some ⟨b, o, none⟩) ∧ RAt g cs b o
  | .mp id off, x => ∃ b, g.E id = some (.blk b) ∧ x = .pointer (some ⟨b, off, none⟩)
  | .nils, x => x = .slice none 0 0
  | .sl z es p, x => bares es = true ∧ ∃ b o cap, x = .slice (some ⟨b, o, none⟩) es.length cap ∧ es.length ≤ cap ∧ 1 ≤ z ∧ RAtE g z es b o ∧ permR g p es.length b o cap
  | .ms id off z len cap, x => ∃ b o, g.E id = some (.blk b) ∧ ∃ c, x = .slice (some ⟨b, o, none⟩) len c ∧ len ≤ c ∧ 1 ≤ z ∧ (c ≠ 0 → o = off) ∧ (cap = c ∨ cap = 0)
  | .nilm, x => x = .map none
  | .mm id, x => ∃ b, g.E id = some (.blk b) ∧ x = .map (some b)
  | .im es, x => ∃ b ents clk, g.M b = some (ents, clk) ∧ x = .map (some b) ∧ REs g es ents
  | .fn f a c, x => ∃ a' c', x = .func f a' c' ∧ RL g a a'.toList ∧ RL g c c'.toList
  | .nilfn, x => x = .nilFunc
  | .iface t v, x => ∃ y, x = .iface t y ∧ R g v y
  | .nili, x => x = .nilIface
  | .agg cs, x => ∃ ys, x = .agg ys ∧ RL g cs ys.toList
  | .tup vs, x => ∃ ys, x = .tuple ys ∧ RL g vs ys.toList
  | .gs k z n, x => ∃ loc b cap, g.E k = some (.tok loc) ∧ loc n = some (b, cap) ∧ x = .slice (some ⟨b, 0, none⟩) n cap ∧ n ≤ cap ∧ 1 ≤ z
  | .gp k n off, x => ∃ loc b cap, g.E k = some (.tok loc) ∧ loc n = some (b, cap) ∧ x = .pointer (some ⟨b, off, none⟩)
  | .es, x => ∃ a, x = .slice (some a) 0 0
  | .opq i, x => (i = true ∧ (x = .nilIface ∨ ∃ t y, x = .iface t y)) ∨ (i = false ∧ ((∃ a, x = .pointer a) ∨ ∃ f a c, x = .func f a c))
  | .yld k, x => ∃ l, g.E k = some (.blk l) ∧ x = .func (.yield l) #[] #[]
  | .hs z n cs, x => ones cs = true ∧ cs.length = n * z ∧ 1 ≤ z ∧ ∃ b, x = .slice (some ⟨b, 0, none⟩) n n ∧ RAt g cs b 0
def RL (g : Gh) : List AV → List Value → Prop
  | [], l => l = []
  | v :: vs, l => ∃ x xs, l = x :: xs ∧ R g v x ∧ RL g vs xs
def RAt (g : Gh) : List AV → Nat → Nat → Prop
  | [], _, _ => True
  | v :: vs, b, o => (∃ x, g.F b o = some x ∧ x.oneCell' = true ∧ R g v x) ∧ RAt g vs b (o + 1)
def RAtE (g : Gh) (z : Nat) : List AV → Nat → Nat → Prop
  | [], _, _ => True
  | .agg cs :: vs, b, o => (cs.length = z ∧ RAt g cs b o) ∧ RAtE g z vs b (o + z)
  | v :: vs, b, o => (1 = z ∧ ∃ x, g.F b o = some x ∧ x.oneCell' = true ∧ R g v x) ∧ RAtE g z vs b (o + z)
def REs (g : Gh) : List (AV × AV) → List MapEntry → Prop
  | [], l => l = []
  | (k, v) :: es, l => ∃ e l', l = e :: l' ∧ R g k e.key ∧ R g v e.val ∧ REs g es l'
end
theorem RAtE_cons (g : Gh) (z : Nat) (v : AV) (vs : List AV) (b o : Nat) :
    RAtE g z (v :: vs) b o ↔ v.cells.length = z ∧ RAt g v.cells b o ∧ RAtE g z vs b (o + z) := by
  cases v <;> simp [RAtE, AV.cells, RAt, and_assoc]
structure Le (g g' : Gh) : Prop where
  F : ∀ b o v, g.F b o = some v → g'.F b o = some v
  M : ∀ b e, g.M b = some e → g'.M b = some e
  blk : ∀ id b, g.E id = some (.blk b) → g'.E id = some (.blk b)
  tok : ∀ id loc, g.E id = some (.tok loc) → ∃ loc', g'.E id = some (.tok loc') ∧ ∀ n x, loc n = some x → loc' n = some x
  C : g'.C ↔ g.C
theorem Le.refl (g : Gh) : Le g g := ⟨fun _ _ _ h => h, fun _ _ h => h, fun _ _ h => h, fun _ loc h => ⟨loc, h, fun _ _ h => h⟩, Iff.rfl⟩
theorem Le.trans {a b c : Gh} (h : Le a b) (k : Le b c) : Le a c :=
  ⟨fun _ _ _ x => k.F _ _ _ (h.F _ _ _ x), fun _ _ x => k.M _ _ (h.M _ _ x), fun _ _ x => k.blk _ _ (h.blk _ _ x), fun id loc x => by
    obtain ⟨l1, e1, s1⟩ := h.tok id loc x
    obtain ⟨l2, e2, s2⟩ := k.tok id l1 e1
    exact ⟨l2, e2, fun n y hy => s2 _ _ (s1 _ _ hy)⟩, k.C.trans h.C⟩
theorem permR_mono {g g' : Gh} (h : Le g g') {p : Perm} {n b o cap : Nat} (hp : permR g p n b o cap) : permR g' p n b o cap := by
  cases p with
  | shut => exact hp
  | wide => exact hp
  | own k =>
    obtain ⟨h0, loc, h1, h2⟩ := hp
    obtain ⟨loc', h3, h4⟩ := h.tok k loc h1
    exact ⟨h0, loc', h3, h4 _ _ h2⟩
mutual
theorem R_mono {g g' : Gh} (h : Le g g') : ∀ (v : AV) (x : Value), R g v x → R g' v x
  | .bool _, _, hr | .int _ _, _, hr | .str _, _, hr | .flt _ _, _, hr | .nilp, _, hr | .nils, _, hr | .nilm, _, hr | .nilfn, _, hr | .nili, _, hr | .es, _, hr | .opq _, _, hr => by
    simpa only [R] using hr
  | .ip cs, x, hr => by
    simp only [R] at hr ⊢
    obtain ⟨h0, b, o, h1, h2⟩ := hr
    exact ⟨h0, b, o, h1, RAt_mono h cs b o h2⟩
  | .mp id off, x, hr => by
    simp only [R] at hr ⊢
    obtain ⟨b, h1, h2⟩ := hr
    exact ⟨b, h.blk _ _ h1, h2⟩
  | .sl z es p, x, hr => by
    simp only [R] at hr ⊢
    obtain ⟨h0, b, o, cap, h1, h2, h2', h3, h4⟩ := hr
    exact ⟨h0, b, o, cap, h1, h2, h2', RAtE_mono h z es b o h3, permR_mono h h4⟩
  | .ms id off z len cap, x, hr => by
    simp only [R] at hr ⊢
    obtain ⟨b, o, h1, h2⟩ := hr
    exact ⟨b, o, h.blk _ _ h1, h2⟩
  | .gs k z n, x, hr => by
    simp only [R] at hr ⊢
    obtain ⟨loc, b, cap, h1, h2, h3⟩ := hr
    obtain ⟨loc', h4, h5⟩ := h.tok k loc h1
    exact ⟨loc', b, cap, h4, h5 _ _ h2, h3⟩
  | .gp k n off, x, hr => by
    simp only [R] at hr ⊢
    obtain ⟨loc, b, cap, h1, h2, h3⟩ := hr
    obtain ⟨loc', h4, h5⟩ := h.tok k loc h1
    exact ⟨loc', b, cap, h4, h5 _ _ h2, h3⟩
  | .mm id, x, hr => by
    simp only [R] at hr ⊢
    obtain ⟨b, h1, h2⟩ := hr
    exact ⟨b, h.blk _ _ h1, h2⟩
  | .yld k, x, hr => by
    simp only [R] at hr ⊢
    obtain ⟨b, h1, h2⟩ := hr
    exact ⟨b, h.blk _ _ h1, h2⟩
  | .hs z n cs, x, hr => by
    simp only [R] at hr ⊢
    obtain ⟨h1, h2, h3, b, h4, h5⟩ := hr
    exact ⟨h1, h2, h3, b, h4, RAt_mono h cs b 0 h5⟩
  | .im es, x, hr => by
    simp only [R] at hr ⊢
    obtain ⟨b, ents, clk, h1, h2, h3⟩ := hr
    exact ⟨b, ents, clk, h.M _ _ h1, h2, REs_mono h es ents h3⟩
  | .fn f a c, x, hr => by
    simp only [R] at hr ⊢
    obtain ⟨a', c', h1, h2, h3⟩ := hr
    exact ⟨a', c', h1, RL_mono h a _ h2, RL_mono h c _ h3⟩
  | .iface t v, x, hr => by
    simp only [R] at hr ⊢
    obtain ⟨y, h1, h2⟩ := hr
    exact ⟨y, h1, R_mono h v y h2⟩
  | .agg cs, x, hr => by
    simp only [R] at hr ⊢
    obtain ⟨y, h1, h2⟩ := hr
    exact ⟨y, h1, RL_mono h cs _ h2⟩
  | .tup cs, x, hr => by
    simp only [R] at hr ⊢
    obtain ⟨y, h1, h2⟩ := hr
    exact ⟨y, h1, RL_mono h cs _ h2⟩
theorem RL_mono {g g' : Gh} (h : Le g g') : ∀ (vs : List AV) (xs : List Value), RL g vs xs → RL g' vs xs
  | [], _, hr => by simp only [RL] at hr ⊢; exact hr
  | v :: vs, l, hr => by
    simp only [RL] at hr ⊢
    obtain ⟨x, xs, h1, h2, h3⟩ := hr
    exact ⟨x, xs, h1, R_mono h v x h2, RL_mono h vs xs h3⟩
theorem RAt_mono {g g' : Gh} (h : Le g g') : ∀ (vs : List AV) (b o : Nat), RAt g vs b o → RAt g' vs b o
  | [], _, _, _ => by simp only [RAt]
  | v :: vs, b, o, hr => by
    simp only [RAt] at hr ⊢
    obtain ⟨⟨x, h1, h2, h3⟩, h4⟩ := hr
    exact ⟨⟨x, h.F _ _ _ h1, h2, R_mono h v x h3⟩, RAt_mono h vs b (o + 1) h4⟩
theorem RAtE_mono {g g' : Gh} (h : Le g g') (z : Nat) : ∀ (vs : List AV) (b o : Nat), RAtE g z vs b o → RAtE g' z vs b o
  | [], _, _, _ => by simp only [RAtE]
  | v :: vs, b, o, hr => by
    cases v with
    | agg cs =>
      simp only [RAtE] at hr ⊢
      exact ⟨⟨hr.1.1, RAt_mono h cs b o hr.1.2⟩, RAtE_mono h z vs b (o + z) hr.2⟩
    | _ =>
      simp only [RAtE] at hr ⊢
      obtain ⟨⟨h0, x, h1, h2, h3⟩, h4⟩ := hr
      exact ⟨⟨h0, x, h.F _ _ _ h1, h2, R_mono h _ x h3⟩, RAtE_mono h z vs b (o + z) h4⟩
theorem REs_mono {g g' : Gh} (h : Le g g') : ∀ (es : List (AV × AV)) (l : List MapEntry), REs g es l → REs g' es l
  | [], _, hr => by simp only [REs] at hr ⊢; exact hr
  | (k, v) :: es, l, hr => by
    simp only [REs] at hr ⊢
    obtain ⟨e, l', h1, h2, h3, h4⟩ := hr
    exact ⟨e, l', h1, R_mono h k _ h2, R_mono h v _ h3, REs_mono h es l' h4⟩
end
structure LeF (g g' : Gh) : Prop where
  F : ∀ b o v, g.F b o = some v → g'.F b o = some v
  M : ∀ b e, g.M b = some e → g'.M b = some e
abbrev bareEs := bare.bareEs
theorem bares_cons (v : AV) (l : List AV) : bares (v :: l) = (bare v && bares l) := rfl
mutual
theorem R_bare {g g' : Gh} (h : LeF g g') : ∀ (v : AV) (x : Value), bare v = true → R g v x → R g' v x
  | .bool _, _, _, hr | .int _ _, _, _, hr | .str _, _, _, hr | .flt _ _, _, _, hr | .nilp, _, _, hr | .nils, _, _, hr | .nilm, _, _, hr | .nilfn, _, _, hr | .nili, _, _, hr | .es, _, _, hr | .opq _, _, _, hr => by
    simpa only [R] using hr
  | .ip cs, x, _, hr => by
    simp only [R] at hr ⊢
    obtain ⟨h0, b, o, h1, h2⟩ := hr
    exact ⟨h0, b, o, h1, RAt_bare h cs b o h0 h2⟩
  | .mp id off, x, hb, hr => by simp [bare] at hb
  | .sl z es p, x, hb, hr => by
    simp only [R] at hr ⊢
    obtain ⟨h0, b, o, cap, h1, h2, h2', h3, h4⟩ := hr
    refine ⟨h0, b, o, cap, h1, h2, h2', RAtE_bare h z es b o h0 h3, ?_⟩
    cases p with
    | shut => exact h4
    | wide => exact h4
    | own k => simp [bare] at hb
  | .ms .., x, hb, hr => by simp [bare] at hb
  | .mm id, x, hb, hr => by simp [bare] at hb
  | .yld _, x, hb, hr => by simp [bare] at hb
  | .hs .., x, hb, hr => by simp [bare] at hb
  | .im es, x, hb, hr => by
    simp only [R] at hr ⊢
    obtain ⟨b, ents, clk, h1, h2, h3⟩ := hr
    simp only [bare] at hb
    exact ⟨b, ents, clk, h.M _ _ h1, h2, REs_bare h es ents hb h3⟩
  | .fn f a c, x, hb, hr => by
    simp only [R] at hr ⊢
    simp only [bare, Bool.and_eq_true] at hb
    obtain ⟨a', c', h1, h2, h3⟩ := hr
    exact ⟨a', c', h1, RL_bare h a _ hb.1 h2, RL_bare h c _ hb.2 h3⟩
  | .iface t v, x, hb, hr => by
    simp only [R] at hr ⊢
    simp only [bare] at hb
    obtain ⟨y, h1, h2⟩ := hr
    exact ⟨y, h1, R_bare h v y hb h2⟩
  | .agg cs, x, hb, hr => by
    simp only [R] at hr ⊢
    simp only [bare] at hb
    obtain ⟨y, h1, h2⟩ := hr
    exact ⟨y, h1, RL_bare h cs _ hb h2⟩
  | .tup cs, x, hb, hr => by
    simp only [R] at hr ⊢
    simp only [bare] at hb
    obtain ⟨y, h1, h2⟩ := hr
    exact ⟨y, h1, RL_bare h cs _ hb h2⟩
theorem RL_bare {g g' : Gh} (h : LeF g g') : ∀ (vs : List AV) (xs : List Value), bares vs = true → RL g vs xs → RL g' vs xs
  | [], _, _, hr => by simp only [RL] at hr ⊢; exact hr
  | v :: vs, l, hb, hr => by
    simp only [RL] at hr ⊢
    simp only [bares_cons, Bool.and_eq_true] at hb
    obtain ⟨x, xs, h1, h2, h3⟩ := hr
    exact ⟨x, xs, h1, R_bare h v x hb.1 h2, RL_bare h vs xs hb.2 h3⟩
theorem RAt_bare {g g' : Gh} (h : LeF g g') : ∀ (vs : List AV) (b o : Nat), bares vs = true → RAt g vs b o → RAt g' vs b o
  | [], _, _, _, _ => by simp only [RAt]
  | v :: vs, b, o, hb, hr => by
    simp only [RAt] at hr ⊢
    simp only [bares_cons, Bool.and_eq_true] at hb
    obtain ⟨⟨x, h1, h2, h3⟩, h4⟩ := hr
    exact ⟨⟨x, h.F _ _ _ h1, h2, R_bare h v x hb.1 h3⟩, RAt_bare h vs b (o + 1) hb.2 h4⟩
theorem RAtE_bare {g g' : Gh} (h : LeF g g') (z : Nat) : ∀ (vs : List AV) (b o : Nat), bares vs = true → RAtE g z vs b o → RAtE g' z vs b o
  | [], _, _, _, _ => by simp only [RAtE]
  | v :: vs, b, o, hb, hr => by
    simp only [bares_cons, Bool.and_eq_true] at hb
    cases v with
    | agg cs =>
      simp only [RAtE] at hr ⊢
      exact ⟨⟨hr.1.1, RAt_bare h cs b o hb.1 hr.1.2⟩, RAtE_bare h z vs b (o + z) hb.2 hr.2⟩
    | _ =>
      simp only [RAtE] at hr ⊢
      obtain ⟨⟨h0, x, h1, h2, h3⟩, h4⟩ := hr
      exact ⟨⟨h0, x, h.F _ _ _ h1, h2, R_bare h _ x hb.1 h3⟩, RAtE_bare h z vs b (o + z) hb.2 h4⟩
theorem REs_bare {g g' : Gh} (h : LeF g g') : ∀ (es : List (AV × AV)) (l : List MapEntry), bareEs es = true → REs g es l → REs g' es l
  | [], _, _, hr => by simp only [REs] at hr ⊢; exact hr
  | (k, v) :: es, l, hb, hr => by
    simp only [REs] at hr ⊢
    simp only [bareEs, bare.bareEs, Bool.and_eq_true] at hb
    obtain ⟨e, l', h1, h2, h3, h4⟩ := hr
    exact ⟨e, l', h1, R_bare h k _ hb.1.1 h2, R_bare h v _ hb.1.2 h3, REs_bare h es l' hb.2 h4⟩
end
section
variable {g : Gh}
theorem RL_nil : RL g [] [] := by simp [RL]
theorem RL_cons {v : AV} {vs : List AV} {x : Value} {xs : List Value} (h : R g v x) (hs : RL g vs xs) : RL g (v :: vs) (x :: xs) := by
  simp only [RL]; exact ⟨x, xs, rfl, h, hs⟩
theorem RL_len : ∀ {vs : List AV} {xs : List Value}, RL g vs xs → xs.length = vs.length
  | [], _, h => by simp only [RL] at h; subst h; rfl
  | _ :: _, _, h => by
    simp only [RL] at h
    obtain ⟨x, xs, rfl, _, h2⟩ := h
    simp [RL_len h2]
theorem RL_append : ∀ {vs us : List AV} {xs ys : List Value}, RL g vs xs → RL g us ys → RL g (vs ++ us) (xs ++ ys)
  | [], _, _, _, h, k => by simp only [RL] at h; subst h; exact k
  | _ :: _, _, _, _, h, k => by
    simp only [RL] at h
    obtain ⟨x, xs, rfl, h1, h2⟩ := h
    exact RL_cons h1 (RL_append h2 k)
theorem RL_take : ∀ (n : Nat) {vs : List AV} {xs : List Value}, RL g vs xs → RL g (vs.take n) (xs.take n)
  | 0, _, _, _ => by simp [RL]
  | _ + 1, [], _, h => by simp only [RL] at h; subst h; simp [RL]
  | n + 1, _ :: _, _, h => by
    simp only [RL] at h
    obtain ⟨x, xs, rfl, h1, h2⟩ := h
    exact RL_cons h1 (RL_take n h2)
theorem RL_drop : ∀ (n : Nat) {vs : List AV} {xs : List Value}, RL g vs xs → RL g (vs.drop n) (xs.drop n)
  | 0, _, _, h => h
  | _ + 1, [], _, h => by simp only [RL] at h; subst h; simp [RL]
  | n + 1, _ :: _, _, h => by
    simp only [RL] at h
    obtain ⟨x, xs, rfl, h1, h2⟩ := h
    exact RL_drop n h2
theorem RL_nth : ∀ {vs : List AV} {xs : List Value} {n : Nat} {v : AV}, RL g vs xs → nthAV vs n = .ok v → ∃ x, xs[n]? = some x ∧ R g v x
  | [], _, _, _, _, e => by simp [nthAV] at e
  | _ :: _, _, 0, _, h, e => by
    simp only [RL] at h
    obtain ⟨x, xs, rfl, h1, h2⟩ := h
    simp only [nthAV, Except.ok.injEq] at e
    subst e
    exact ⟨x, rfl, h1⟩
  | _ :: _, _, n + 1, _, h, e => by
    simp only [RL] at h
    obtain ⟨x, xs, rfl, h1, h2⟩ := h
    simp only [nthAV] at e
    obtain ⟨y, hy, hr⟩ := RL_nth h2 e
    exact ⟨y, by simpa using hy, hr⟩
theorem RL_getElem? : ∀ {vs : List AV} {xs : List Value} {n : Nat} {v : AV}, RL g vs xs → vs[n]? = some v → ∃ x, xs[n]? = some x ∧ R g v x
  | [], _, _, _, _, e => by simp at e
  | _ :: _, _, 0, _, h, e => by
    simp only [RL] at h
    obtain ⟨x, xs, rfl, h1, h2⟩ := h
    simp only [List.getElem?_cons_zero, Option.some.injEq] at e
    subst e
    exact ⟨x, rfl, h1⟩
  | _ :: _, _, n + 1, _, h, e => by
    simp only [RL] at h
    obtain ⟨x, xs, rfl, h1, h2⟩ := h
    simp only [List.getElem?_cons_succ] at e
    obtain ⟨y, hy, hr⟩ := RL_getElem? h2 e
    exact ⟨y, by simpa using hy, hr⟩
theorem RAt_append : ∀ {vs us : List AV} {b o : Nat}, RAt g (vs ++ us) b o ↔ RAt g vs b o ∧ RAt g us b (o + vs.length)
  | [], us, b, o => by simp [RAt]
  | v :: vs, us, b, o => by
    simp only [List.cons_append, RAt, RAt_append (vs := vs), List.length_cons, and_assoc]
    rw [show o + 1 + vs.length = o + (vs.length + 1) by omega]
theorem RAt_drop {vs : List AV} {b o : Nat} (n : Nat) (h : RAt g vs b o) (hn : n ≤ vs.length) : RAt g (vs.drop n) b (o + n) := by
  have h' := h
  rw [← List.take_append_drop n vs, RAt_append] at h'
  have := h'.2
  rwa [List.length_take, Nat.min_eq_left hn] at this
theorem RAt_drop' {vs : List AV} {b o : Nat} (n : Nat) (h : RAt g vs b o) : RAt g (vs.drop n) b (o + n) := by
  rcases Nat.le_total n vs.length with k | k
  · exact RAt_drop n h k
  · rw [List.drop_eq_nil_of_le k]; simp [RAt]
theorem RAt_vals : ∀ {vs : List AV} {b o : Nat}, RAt g vs b o → ∃ xs : List Value, RL g vs xs ∧ (∀ i x, xs[i]? = some x → g.F b (o + i) = some x ∧ x.oneCell' = true)
  | [], _, _, _ => ⟨[], by simp [RL], by simp⟩
  | v :: vs, b, o, h => by
    simp only [RAt] at h
    obtain ⟨⟨x, h1, h2, h3⟩, h4⟩ := h
    obtain ⟨xs, k1, k2⟩ := RAt_vals h4
    refine ⟨x :: xs, RL_cons h3 k1, ?_⟩
    intro i y hy
    cases i with
    | zero => simp only [List.getElem?_cons_zero, Option.some.injEq] at hy; subst hy; exact ⟨h1, h2⟩
    | succ i =>
      simp only [List.getElem?_cons_succ] at hy
      have := k2 i y hy
      rwa [show o + 1 + i = o + (i + 1) by omega] at this
theorem RAt_of_vals : ∀ {vs : List AV} {xs : List Value} {b o : Nat}, RL g vs xs → (∀ i x, xs[i]? = some x → g.F b (o + i) = some x ∧ x.oneCell' = true) → RAt g vs b o
  | [], _, _, _, _, _ => by simp [RAt]
  | v :: vs, l, b, o, h, k => by
    simp only [RL] at h
    obtain ⟨x, xs, rfl, h1, h2⟩ := h
    simp only [RAt]
    have k0 := k 0 x rfl
    refine ⟨⟨x, k0.1, k0.2, h1⟩, RAt_of_vals h2 fun i y hy => ?_⟩
    have := k (i + 1) y (by simpa using hy)
    rwa [show o + (i + 1) = o + 1 + i by omega] at this
theorem flat_cons (v : AV) (l : List AV) : flat (v :: l) = v.cells ++ flat l := rfl
theorem flat_append (l m : List AV) : flat (l ++ m) = flat l ++ flat m := by
  induction l with
  | nil => rfl
  | cons v l ih => simp [flat_cons, ih]
theorem RAtE_iff {z : Nat} : ∀ {vs : List AV} {b o : Nat}, RAtE g z vs b o ↔ (∀ v ∈ vs, v.cells.length = z) ∧ RAt g (flat vs) b o
  | [], b, o => by simp [RAtE, flat, RAt]
  | v :: vs, b, o => by
    rw [RAtE_cons, RAtE_iff (vs := vs), flat_cons, RAt_append]
    constructor
    · rintro ⟨h1, h2, h3, h4⟩
      exact ⟨by simpa [h1] using h3, h2, by rwa [h1]⟩
    · rintro ⟨h1, h2, h3⟩
      have hv := h1 v (by simp)
      exact ⟨hv, h2, fun u hu => h1 u (by simp [hu]), by rwa [hv] at h3⟩
theorem flat_length {z : Nat} : ∀ {vs : List AV}, (∀ v ∈ vs, v.cells.length = z) → (flat vs).length = vs.length * z
  | [], _ => by simp [flat]
  | v :: vs, h => by
    have h1 := h v (by simp)
    have h2 := flat_length (vs := vs) fun u hu => h u (by simp [hu])
    simp only [flat_cons, List.length_append, h1, h2, List.length_cons, Nat.add_mul]
    omega
theorem flat_drop {z : Nat} : ∀ {vs : List AV} (n : Nat), (∀ v ∈ vs, v.cells.length = z) → flat (vs.drop n) = (flat vs).drop (n * z)
  | [], n, _ => by simp [flat]
  | v :: vs, 0, _ => by simp
  | v :: vs, n + 1, h => by
    have h1 := h v (by simp)
    have h2 := flat_drop (vs := vs) n fun u hu => h u (by simp [hu])
    simp only [List.drop_succ_cons, h2, flat_cons, Nat.add_mul, Nat.one_mul]
    rw [show n * z + z = v.cells.length + n * z by omega, List.drop_append]
    simp
theorem RAtE_drop {z : Nat} {vs : List AV} {b o : Nat} (n : Nat) (h : RAtE g z vs b o) (hn : n ≤ vs.length) : RAtE g z (vs.drop n) b (o + n * z) := by
  rw [RAtE_iff] at h ⊢
  refine ⟨fun v hv => h.1 v (List.mem_of_mem_drop hv), ?_⟩
  rw [flat_drop n h.1]
  refine RAt_drop _ h.2 ?_
  rw [flat_length h.1]
  exact Nat.mul_le_mul_right _ hn
theorem RAtE_append {z : Nat} {vs us : List AV} {b o : Nat} : RAtE g z (vs ++ us) b o ↔ RAtE g z vs b o ∧ RAtE g z us b (o + vs.length * z) := by
  induction vs generalizing o with
  | nil => simp [RAtE]
  | cons v vs ih =>
    rw [List.cons_append, RAtE_cons, RAtE_cons, ih, List.length_cons]
    rw [show o + z + vs.length * z = o + (vs.length + 1) * z by rw [Nat.add_mul]; omega]
    simp [and_assoc]
theorem RAtE_take {z : Nat} {vs : List AV} {b o : Nat} (n : Nat) (h : RAtE g z vs b o) : RAtE g z (vs.take n) b o := by
  rw [← List.take_append_drop n vs, RAtE_append] at h
  exact h.1
theorem RAtE_nth {z : Nat} : ∀ {vs : List AV} {b o n : Nat} {v : AV}, RAtE g z vs b o → nthAV vs n = .ok v → v.cells.length = z ∧ RAt g v.cells b (o + n * z)
  | [], _, _, _, _, _, e => by simp [nthAV] at e
  | u :: us, b, o, 0, v, h, e => by
    simp only [nthAV, Except.ok.injEq] at e
    subst e
    rw [RAtE_cons] at h
    exact ⟨h.1, by simpa using h.2.1⟩
  | u :: us, b, o, n + 1, v, h, e => by
    simp only [nthAV] at e
    rw [RAtE_cons] at h
    have := RAtE_nth h.2.2 e
    rwa [show o + z + n * z = o + (n + 1) * z by rw [Nat.add_mul]; omega] at this
end
theorem bares_append (l m : List AV) : bares (l ++ m) = (bares l && bares m) := by
  induction l with
  | nil => rfl
  | cons v l ih => simp only [List.cons_append, bares_cons, ih, Bool.and_assoc]
theorem bares_take {l : List AV} (n : Nat) (h : bares l = true) : bares (l.take n) = true := by
  rw [← List.take_append_drop n l, bares_append, Bool.and_eq_true] at h; exact h.1
theorem bares_drop {l : List AV} (n : Nat) (h : bares l = true) : bares (l.drop n) = true := by
  rw [← List.take_append_drop n l, bares_append, Bool.and_eq_true] at h; exact h.2
theorem bares_nth : ∀ {l : List AV} {n : Nat} {v : AV}, bares l = true → nthAV l n = .ok v → bare v = true
  | [], _, _, _, e => by simp [nthAV] at e
  | u :: us, 0, v, h, e => by
    simp only [nthAV, Except.ok.injEq] at e; subst e
    simp only [bares_cons, Bool.and_eq_true] at h; exact h.1
  | u :: us, n + 1, v, h, e => by
    simp only [nthAV] at e
    simp only [bares_cons, Bool.and_eq_true] at h; exact bares_nth h.2 e
theorem bares_cells {v : AV} (h : bare v = true) : bares v.cells = true := by
  cases v <;> first | exact h | simpa [AV.cells, bares_cons, bares, bare.bareAll] using h
theorem R_strip {g : Gh} {v : AV} {x : Value} (h : R g v x) : R g (strip v) x := by
  cases v with
  | sl z es p =>
    cases p with
    | own k =>
      simp only [strip, R] at h ⊢
      obtain ⟨h0, b, o, cap, h1, h2, h2', h3, h4⟩ := h
      exact ⟨h0, b, o, cap, h1, h2, h2', h3, trivial⟩
    | _ => exact h
  | _ => exact h
theorem RL_strip {g : Gh} : ∀ {vs : List AV} {xs : List Value}, RL g vs xs → RL g (vs.map strip) xs
  | [], _, h => h
  | v :: vs, _, h => by
    simp only [RL] at h
    obtain ⟨x, xs, rfl, h1, h2⟩ := h
    exact RL_cons (R_strip h1) (RL_strip h2)
theorem bind_ok {α β : Type} {x : Res α} {f : α → Res β} {b : β} : (x >>= f) = .ok b ↔ ∃ a, x = .ok a ∧ f a = .ok b := by
  cases x <;> simp [bind, Except.bind]
theorem pure_ok {α : Type} {a b : α} : (pure a : Res α) = .ok b ↔ a = b := by simp [pure, Except.pure]
theorem R_fit {g : Gh} {v v' : AV} {x : Value} (h : R g v x) (e : fit v = .ok v') : R g v' x ∧ bare v' = true ∧ v'.cells.length = v.cells.length := by
  unfold fit at e
  simp only at e
  split at e
  · rename_i hb
    simp only [Except.ok.injEq] at e
    subst e
    refine ⟨?_, hb, ?_⟩
    · cases v with
      | agg cs =>
        simp only [R] at h ⊢
        obtain ⟨ys, h1, h2⟩ := h
        exact ⟨ys, h1, RL_strip h2⟩
      | _ => exact R_strip h
    · cases v with
      | agg cs => simp [AV.cells]
      | sl z es p => cases p <;> rfl
      | _ => rfl
  · simp at e
theorem RL_fits {g : Gh} : ∀ {vs vs' : List AV} {xs : List Value}, RL g vs xs → fits vs = .ok vs' → RL g vs' xs ∧ bares vs' = true
  | [], _, _, h, e => by
    simp only [fits, Except.ok.injEq] at e; subst e; exact ⟨h, rfl⟩
  | v :: vs, vs', _, h, e => by
    simp only [RL] at h
    obtain ⟨x, xs, rfl, h1, h2⟩ := h
    simp only [fits, bind_ok, pure_ok] at e
    obtain ⟨u, e1, us, e2, rfl⟩ := e
    obtain ⟨k1, k2, _⟩ := R_fit h1 e1
    obtain ⟨k3, k4⟩ := RL_fits h2 e2
    exact ⟨RL_cons k1 k3, by simp [bares_cons, k2, k4]⟩
def regionOk (ops : List Oper) : Bool :=
  (ops.zipIdx.all fun (o, j) => o.after.toList.all fun e => !Region.binds .any e || e.on.blt j) &&
  (ops.zipIdx.all fun (o, j) => (ops.zipIdx.take j).all fun (o', i) => o'.apart ops.toArray o || behind ops (j + 1) j i)
def codeOk : Code → Bool
  | .region _ ops draw => !draw || regionOk ops.toList
  | .seq a b => codeOk a && codeOk b
  | .cond _ a b => codeOk a && codeOk b
  | .block _ c => codeOk c
  | .loop c => codeOk c
  | .scope c => codeOk c
  | .rangeFunc _ _ a c => codeOk a && codeOk c
  | _ => true
structure FrR (g : Gh) (fr : Fr) (tmps : Array Value) : Prop where
  size : tmps.size = fr.n
  at' : ∀ t, (fr.strict = true ∧ fr.t.get t = none) ∨ R g (fr.get t) (tmps.getD t Go.undef)
theorem FrR.mono {g g' : Gh} {fr : Fr} {tmps : Array Value} (h : FrR g fr tmps) (le : Le g g') : FrR g' fr tmps := ⟨h.size, fun t => (h.at' t).imp id (R_mono le _ _)⟩
theorem FrR.at {g : Gh} {fr : Fr} {tmps : Array Value} (h : FrR g fr tmps) (hs : fr.strict = false) (t : Nat) : R g (fr.get t) (tmps.getD t Go.undef) := by
  rcases h.at' t with ⟨h1, _⟩ | h1
  · rw [hs] at h1; cases h1
  · exact h1
def LoopSt (s : Nat) (p : Ex) (r : Loop) : Prop :=
  (s = 0 ∧ r.state = .ready ∧ r.pending = none ∧ p = .normal) ∨ (s = 1 ∧ r.state = .busy) ∨ (s = 2 ∧ r.state = .done ∧ ((p = .ret ∧ r.pending = some .ret) ∨ ∃ i, p = .exit i ∧ r.pending = some (.exit i)))
end Go.VM
