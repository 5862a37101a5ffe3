/-
  A part of the proof.
-/
import Derived.Test.YtlfilkniobkbiaaDoorVmBE
import Derived.Test.YtlfilkniobkbiaaDoorVmBA
import Derived.Lib.TrimUEq
set_option linter.unusedSimpArgs false
/- UTF-8 by its bytes: how many bytes a character has; what is valid; how many characters. -/
namespace Go.VM
open Go.Lib
end Go.VM
/- UTF-8: how many characters, by the library's count. -/
namespace Go.VM
open Go.Lib
section
variable {β : Type} {O : Orc}
theorem planS_lib {f : List AV → Res AV} {args : List AV} {v : AV} (h : f args = .ok v) (st : St) (K : Kv β) : planS O (primP (.lib f) args) st K = K v st q0 := by
  simp only [planS, outS, primP, h, planO, bindO_ok]
end
end Go.VM
/- Small facts that walks of shallow forms want; slices that own their ends, side by side; bytes of a text. -/
namespace Go.VM
open Go
@[simp] theorem oneOf_one (v : AV) : oneOf [v] = v := id rfl
@[simp] theorem notNil_ip (cs : List AV) : notNil (.ip cs) = true := id rfl
@[simp] theorem notNil_mp (i o : Nat) : notNil (.mp i o) = true := id rfl
@[simp] theorem drop1 (a : AV) (l : List AV) : (a :: l).drop 1 = l := id rfl
@[simp] theorem drop2 (a b : AV) (l : List AV) : (a :: b :: l).drop 2 = l := id rfl
@[simp] theorem drop3 (a b c : AV) (l : List AV) : (a :: b :: c :: l).drop 3 = l := id rfl
@[simp] theorem drop4 (a b c d : AV) (l : List AV) : (a :: b :: c :: d :: l).drop 4 = l := id rfl
@[simp] theorem drop5 (a b c d e : AV) (l : List AV) : (a :: b :: c :: d :: e :: l).drop 5 = l := id rfl
@[simp] theorem takeO1 (a : AV) (l : List AV) : takeO 1 true (a :: l) = some (.agg [a]) := id rfl
@[simp] theorem takeO2 (a b : AV) (l : List AV) : takeO 2 true (a :: b :: l) = some (.agg [a, b]) := id rfl
@[simp] theorem takeO3 (a b c : AV) (l : List AV) : takeO 3 true (a :: b :: c :: l) = some (.agg [a, b, c]) := id rfl
@[simp] theorem takeO4 (a b c d : AV) (l : List AV) : takeO 4 true (a :: b :: c :: d :: l) = some (.agg [a, b, c, d]) := id rfl
@[simp] theorem cells_agg (cs : List AV) : AV.cells (.agg cs) = cs := id rfl
@[simp] theorem cells_str (s : List UInt8) : AV.cells (.str s) = [.str s] := id rfl
@[simp] theorem cells_int (k : IntKind) (n : Int) : AV.cells (.int k n) = [.int k n] := id rfl
@[simp] theorem cells_fn (f : Fn) (a b : List AV) : AV.cells (.fn f a b) = [.fn f a b] := id rfl
@[simp] theorem apart_made1 (i : Nat) (o : VM.Obj) : apart q0 ⟨[], .made i o⟩ = true := id rfl
@[simp] theorem apart_made2 (i : Nat) (o : VM.Obj) : apart ⟨[], .kept⟩ ⟨[], .made i o⟩ = true := id rfl
@[simp] theorem apart_wrote1 (i : Nat) (o : VM.Obj) : apart ⟨[], .kept⟩ ⟨[i], .wrote i o⟩ = true := id rfl
theorem wrapN {n : Nat} (h : n ≤ 9223372036854775807) : IntKind.wrap .i64 (n : Int) = (n : Int) := wrap_i64 (by omega) (by omega)
theorem wrapA {n m : Nat} (h : n + m ≤ 9223372036854775807) : IntKind.wrap .i64 ((n : Int) + (m : Int)) = ((n + m : Nat) : Int) := by rw [← Int.natCast_add]; exact wrapN h
theorem wrapA1 {n : Nat} (h : n + 1 ≤ 9223372036854775807) : IntKind.wrap .i64 ((n : Int) + 1) = ((n + 1 : Nat) : Int) := wrapA (m := 1) h
theorem ble_of {a b : Nat} (h : a ≤ b) : Nat.ble a b = true := Nat.ble_eq_true_of_le h
/-! Slices that own their ends. -/
theorem own_keep {st st' : St} {z : Nat} {e : TypeId} {v : AV} {es : List AV} {but : Nat → Prop} (h : Own st z e v es) (k : Keeps st st' but) (hb : ∀ j, ownerOf v j → ¬ but j) : Own st' z e v es := by
  refine ⟨by rw [k.ro]; exact Nat.le_trans h.1 k.h, h.2.1, ?_⟩
  rcases h.2.2 with h | h | ⟨j, hv, hg, hr⟩
  · exact .inl h
  · exact .inr (.inl h)
  · exact .inr (.inr ⟨j, hv, k.old _ _ (hb j ⟨_, _, hv⟩) hg, by rw [k.ro]; exact hr⟩)
theorem room_of {n z b : Nat} (hn : n ≤ 1000000000) (hb : b ≤ 1000) (hz : 1 ≤ z) : roomOk n ⟨.other, z, b, [], false, false⟩ = true := by
  have : n * b ≤ 1000000000 * 1000 := Nat.mul_le_mul hn hb
  simp only [roomOk, ble_of (show n * b ≤ 70368744177664 by omega), ble_of (show n ≤ 70368744177664 by omega), ble_of hz]; rfl
/-- Such a slice frozen among others. -/
theorem own_freeze {st : St} {z : Nat} {e : TypeId} {v : AV} {es : List AV} (h : Own st z e v es) : ∃ x, IsSl z x es ∧ ∀ n, freeze st 0 (n + 1) v = .ok x := by
  rcases h with ⟨_, hl, ⟨rfl | rfl, rfl⟩ | rfl | ⟨k, rfl, _, _⟩⟩
  · exact ⟨.nils, IsSl.nils, fun _ => rfl⟩
  · exact ⟨.es, IsSl.emp, fun _ => rfl⟩
  · exact ⟨.sl z es .shut, IsSl.shut hl, fun _ => rfl⟩
  · exact ⟨.sl z es .wide, IsSl.wide hl, fun _ => rfl⟩
end Go.VM
/- Appends of many elements; tuples of what freezing leaves; arrays that may be written. -/
namespace Go.VM
open Go
theorem allE_cons {g : AV → Res AV} {v x : AV} {vs xs : List AV} (h : g v = .ok x) (hs : allE g vs = .ok xs) : allE g (v :: vs) = .ok (x :: xs) := by
  simp only [allE, h, hs, ok_bind, pure_eq]
theorem allE_nil {g : AV → Res AV} : allE g [] = .ok [] := rfl
/-! Arrays that may be written: a slice over all of an object's cells. -/
/-- Elements that are written cell by cell. -/
structure Els (z : Nat) (agg : Bool) (es : List AV) : Prop where
  one : ∀ v ∈ es, ones v.cells = true
  size : ∀ v ∈ es, v.cells.length = z
  fit : ∀ v ∈ es, ∀ c ∈ v.cells, Fz 1 c
  fits : ∀ v ∈ es, VM.fit v = .ok v
  shape : ∀ v ∈ es, agg = true → ∃ cs, v = .agg cs
  notagg : ∀ v ∈ es, agg = false → VM.one v = true
theorem Els.set {z : Nat} {agg : Bool} {es : List AV} (he : Els z agg es) {k : Nat} {w : AV} (hw : Els z agg [w]) : Els z agg (es.set k w) := by
  have key : ∀ v ∈ es.set k w, v ∈ es ∨ v = w := fun v hv => List.mem_or_eq_of_mem_set hv
  have hm : w ∈ [w] := by simp
  exact ⟨fun v hv => (key v hv).elim (he.one v) (fun e => e ▸ hw.one w hm), fun v hv => (key v hv).elim (he.size v) (fun e => e ▸ hw.size w hm),
    fun v hv => (key v hv).elim (he.fit v) (fun e => e ▸ hw.fit w hm), fun v hv => (key v hv).elim (he.fits v) (fun e => e ▸ hw.fits w hm),
    fun v hv => (key v hv).elim (he.shape v) (fun e => e ▸ hw.shape w hm), fun v hv => (key v hv).elim (he.notagg v) (fun e => e ▸ hw.notagg w hm)⟩
/-! What reads the same before and after a call. -/
def Rf (d : Nat) (v : AV) : Prop := ∀ f, d ≤ f → sameAV f v v = true
theorem Rf.mono {d e : Nat} {v : AV} (h : Rf d v) (hd : d ≤ e) : Rf e v := fun f hf => h f (Nat.le_trans hd hf)
theorem apart_wr {a i : Nat} {o : Obj} (h : a ≠ i) : apart ⟨[a], .kept⟩ ⟨[i], .wrote i o⟩ = true := by
  show (![a].contains i) = true
  simp [h.symm]
/-- What is new in between may be written. -/
theorem Keeps.fresh {a b c : St} {p : Nat → Prop} {i : Nat} (h : Keeps a b p) (k : Keeps b c (· = i)) (hi : a.h ≤ i) : Keeps a c p :=
  ⟨k.ro.trans h.ro, Nat.le_trans h.h k.h, fun j o hj hg => k.old j o (fun e => by
    have := (St.get_ok.1 hg).1
    omega) (h.old j o hj hg)⟩
end Go.VM
/- What is left to do ends well: steps from the front. -/
namespace Go.VM
open Go
/-- It comes to something of which this is true. -/
def Goes {β : Type} (e : Option β) (Q : β → Prop) : Prop := ∃ b, e = some b ∧ Q b
section
variable {β : Type} {Q : β → Prop} {E : Env} {st : St}
theorem Goes.step {e e' : Option β} (h : e = e') (g : Goes e' Q) : Goes e Q := h ▸ g
theorem Goes.some {b : β} (h : Q b) : Goes (.some b) Q := ⟨b, rfl, h⟩
theorem Goes.mono {e : Option β} {Q' : β → Prop} (h : Goes e Q) (k : ∀ b, Q b → Q' b) : Goes e Q' := by
  obtain ⟨b, e, h⟩ := h
  exact ⟨b, e, k b h⟩
theorem Goes.bind {α : Type} {e : Option α} {R : α → Prop} {K : α → Option β} (h : Goes e R) (g : ∀ a, R a → Goes (K a) Q) : Goes (bindO e K) Q := by
  obtain ⟨a, e, h⟩ := h
  rw [e]
  exact g a h
theorem Goes.wide {F : FuncId} {args : List AV} {Q : AV × St → Prop} (h : Goes (wideS E F args st) Q) : Goes ((orc E).wide F args st) Q := by
  obtain ⟨b, e, h⟩ := h
  exact ⟨b, wide_of e, h⟩
theorem Goes.bare {F : FuncId} {args : List AV} {Q : AV → Prop} (hm : (E.memo F, (E.rule F).isSome) = ([], false)) (h : Goes (bareS E F args) Q) : Goes ((orc E).bare F args) Q := by
  obtain ⟨b, e, h⟩ := h
  exact ⟨b, bare_of hm e, h⟩
theorem Goes.callW {F : FuncId} {args : List AV} {R : AV × St → Prop} (h : Goes ((orc E).wide F args st) R) (h1 : E.isLook F = false) (h2 : (bares (args.map strip) && !E.full F) = false) {K : Kv β} (g : ∀ v s, R (v, s) → Goes (K v s ⟨[], .all st s⟩) Q) : Goes (callS (orc E) F args st K) Q := by
  obtain ⟨⟨v, s⟩, e, h⟩ := h
  exact Goes.step (callS_wide (E := E) K h1 h2 e) (g v s h)
theorem Goes.one {v : AV} (h : VM.one v = true) {e : Option β} (g : Goes e Q) : Goes (asOne v e) Q := Goes.step (asOne_of h e) g
/-- A loop that ends by what gets less. -/
theorem Goes.loop {σ : Type} {F : σ → Option (Sum σ β)} {I : Nat → σ → Prop} (h : ∀ n s, I n s → Goes (F s) fun r => match r with
    | .inl s' => ∃ m, m < n ∧ I m s'
    | .inr b => Q b) : ∀ n s, I n s → Goes (loopO F s) Q := by
  intro n
  induction n using Nat.strongRecOn with
  | _ n ih =>
    intro s hs
    obtain ⟨r, e, hr⟩ := h n s hs
    cases r with
    | inl s' =>
      obtain ⟨m, hm, hi⟩ := hr
      rw [loopO_inl e]
      exact ih m hm s' hi
    | inr b => exact ⟨b, loopO_inr e, hr⟩
/-! Variables of a function. -/
abbrev Vrs := List (Nat × TypeId × List AV)
structure Vw (st : St) (l : Vrs) : Prop where
  v : ∀ q ∈ l, st.get q.1 = .ok (.cells q.2.1 q.2.2) ∧ st.ro ≤ q.1
  nd : (l.map (·.1)).Nodup
  ro : st.ro ≤ st.h
variable {l l1 l2 : Vrs}
theorem Vw.start (h : st.ro ≤ st.h) : Vw st [] := ⟨(fun _ h => by cases h), List.nodup_nil, h⟩
theorem Vw.get (w : Vw st l) {a : Nat} {t : TypeId} {cs : List AV} (h : (a, t, cs) ∈ l) : st.get a = .ok (.cells t cs) := (w.v _ h).1
theorem Vw.sub {l' : Vrs} (w : Vw st l) (h : List.Sublist l' l) : Vw st l' := ⟨fun q hq => w.v q (h.subset hq), (h.map _).nodup w.nd, w.ro⟩
theorem Vw.alloc (w : Vw st l) (t : TypeId) (cs : List AV) : Vw (st.add (.cells t cs)) ((st.h, t, cs) :: l) := by
  refine ⟨fun q hq => ?_, ?_, Nat.le_succ_of_le w.ro⟩
  · rcases List.mem_cons.1 hq with rfl | hq
    · exact ⟨St.get_add_new, w.ro⟩
    · exact ⟨St.get_add_old (w.v q hq).1, (w.v q hq).2⟩
  · rw [List.map_cons, List.nodup_cons]
    refine ⟨fun hm => ?_, w.nd⟩
    obtain ⟨q, hq, e⟩ := List.mem_map.1 hm
    have h1 := (St.get_ok.1 (w.v q hq).1).1
    simp only at e
    omega
theorem Vw.putAt {a : Nat} {t t' : TypeId} {old : List AV} (w : Vw st (l1 ++ (a, t, old) :: l2)) (cs : List AV) : Vw (st.put a (.cells t' cs)) (l1 ++ (a, t', cs) :: l2) := by
  have hm : (a, t, old) ∈ l1 ++ (a, t, old) :: l2 := List.mem_append_right _ List.mem_cons_self
  have hg := w.get hm
  have hnd := w.nd
  rw [List.map_append, List.map_cons] at hnd
  refine ⟨fun q hq => ?_, by rw [List.map_append, List.map_cons]; exact hnd, w.ro⟩
  have other : ∀ q ∈ l1 ++ (a, t, old) :: l2, q.1 ≠ a → (st.put a (.cells t' cs)).get q.1 = .ok (.cells q.2.1 q.2.2) ∧ st.ro ≤ q.1 := fun q hq hne =>
    ⟨by rw [St.get_put_ne (fun e => hne e.symm)]; exact (w.v q hq).1, (w.v q hq).2⟩
  rcases List.mem_append.1 hq with hq | hq
  · refine other q (List.mem_append_left _ hq) fun e => ?_
    have := (List.nodup_append.1 hnd).2.2 q.1 (List.mem_map_of_mem hq) a List.mem_cons_self
    exact this e
  · rcases List.mem_cons.1 hq with rfl | hq
    · exact ⟨St.get_put_same (St.get_ok.1 hg).1, (w.v _ hm).2⟩
    · refine other q (List.mem_append_right _ (List.mem_cons_of_mem _ hq)) fun e => ?_
      have h1 := (List.nodup_cons.1 (List.nodup_append.1 hnd).2.1).1
      have h2 : q.1 ∈ l2.map (·.1) := List.mem_map_of_mem hq
      rw [e] at h2
      exact h1 h2
theorem Goes.vload1 {a : Nat} {ty : TypeId} {cs : List AV} (hm : (a, ty, cs) ∈ l) (w : Vw st l) {o : Nat} {v : AV} {post : List AV} (hv : cs.drop o = v :: post) {K : AV → List Nat → Option β} (g : Goes (K v [a]) Q) : Goes (loadS 1 false (.mp a o) st K) Q := by
  refine Goes.step (loadS_mp (w.get hm) _ _ _ _) ?_
  rw [hv]
  exact g
theorem Goes.vload {a : Nat} {ty : TypeId} {cs : List AV} (hm : (a, ty, cs) ∈ l) (w : Vw st l) {z : Nat} (hz : cs.length = z) {K : AV → List Nat → Option β} (g : Goes (K (.agg cs) [a]) Q) : Goes (loadS z true (.mp a 0) st K) Q := by
  refine Goes.step (loadS_mp (w.get hm) _ _ _ _) ?_
  rw [List.drop_zero, takeO_all hz]
  exact g
theorem Goes.eq {e : Option β} {b : β} (h : Goes e (· = b)) : e = .some b := by
  obtain ⟨c, e, rfl⟩ := h
  exact e
theorem Goes.callB {F : FuncId} {args : List AV} {v : AV} (h : (orc E).bare F args = .some v) (hf : E.full F = false) (hs : args.map strip = args) (hb : bares args = true) {K : Kv β} (g : Goes (K v st q0) Q) : Goes (callS (orc E) F args st K) Q :=
  Goes.step (callS_bare st K hf hs hb h) g
end
end Go.VM
/- Variables, and a slice whose end one owns, from some store on. -/
namespace Go.VM
open Go
section
variable {β : Type} {Q : β → Prop} {st st0 : St} {l : Vrs} {z : Nat} {e : TypeId} {v : AV} {ws : List AV}
theorem Vw.keeps {s : St} {but : Nat → Prop} (w : Vw st l) (k : Keeps st s but) (h : ∀ q ∈ l, ¬ but q.1) : Vw s l :=
  ⟨fun q hq => ⟨k.old _ _ (h q hq) (w.v q hq).1, by rw [k.ro]; exact (w.v q hq).2⟩, w.nd, by rw [k.ro]; exact Nat.le_trans w.ro k.h⟩
theorem keeps_fresh {a b c : St} {p : Nat → Prop} (h : Keeps a b (fun _ => False)) (k : Keeps b c p) (hp : ∀ j, p j → a.h ≤ j) : Keeps a c (fun _ => False) :=
  ⟨k.ro.trans h.ro, Nat.le_trans h.h k.h, fun j o _ hg => k.old j o (fun f => by
    have h1 := hp j f
    have h2 := (St.get_ok.1 hg).1
    omega) (h.old j o (fun f => f) hg)⟩
/-- The variables, the slice; what lay there at the start is kept. -/
structure Wv (st0 st : St) (l : Vrs) (z : Nat) (e : TypeId) (v : AV) (ws : List AV) : Prop where
  w : Vw st l
  o : Own st z e v ws
  nw : ∀ j, ownerOf v j → st0.h ≤ j
  k : Keeps st0 st (fun _ => False)
  ge : ∀ q ∈ l, st0.h ≤ q.1
theorem Wv.start (h : st.ro ≤ st.h) (z : Nat) (e : TypeId) : Wv st st [] z e .nils [] := ⟨Vw.start h, Own.nils h z e, (fun j hj => by obtain ⟨_, _, h⟩ := hj; cases h), Keeps.refl _ _, fun q hq => by cases hq⟩
theorem Wv.sub {l' : Vrs} (w : Wv st0 st l z e v ws) (h : List.Sublist l' l) : Wv st0 st l' z e v ws := ⟨w.w.sub h, w.o, w.nw, w.k, fun q hq => w.ge q (h.subset hq)⟩
theorem Wv.none (w : Wv st0 st l z e v ws) : Wv st0 st [] z e v ws := w.sub (List.nil_sublist _)
theorem Wv.keeps {s : St} (w : Wv st0 st l z e v ws) (k : Keeps st s (fun _ => False)) : Wv st0 s l z e v ws :=
  ⟨w.w.keeps k (fun _ _ f => f), own_keep w.o k (fun _ _ f => f), w.nw, w.k.trans k, w.ge⟩
theorem Goes.walloc (w : Wv st0 st l z e v ws) {ty : TypeId} {cs : List AV} {K : St → Option β} (g : ∀ s, s.h = st.h + 1 → Wv st0 s ((st.h, ty, cs) :: l) z e v ws → Goes (K s) Q) : Goes (letSt (st.add (.cells ty cs)) K) Q := by
  refine g _ rfl ⟨w.w.alloc ty cs, own_keep w.o (Keeps.add _ _ (fun _ => False)) (fun _ _ f => f), w.nw, w.k.trans (Keeps.add _ _ _), fun q hq => ?_⟩
  rcases List.mem_cons.1 hq with rfl | hq
  · exact w.k.h
  · exact w.ge q hq
theorem Wv.putAt {a : Nat} {t t' : TypeId} {old cs : List AV} {l1 l2 : Vrs} (w : Wv st0 st (l1 ++ (a, t, old) :: l2) z e v ws) : Wv st0 (st.put a (.cells t' cs)) (l1 ++ (a, t', cs) :: l2) z e v ws := by
  have hm : (a, t, old) ∈ l1 ++ (a, t, old) :: l2 := List.mem_append_right _ List.mem_cons_self
  have hg := w.w.get hm
  refine ⟨w.w.putAt cs, w.o.put hg, w.nw, keeps_fresh w.k (Keeps.put (but := (· = a)) rfl) (fun j hj => by rw [hj]; exact w.ge _ hm), fun q hq => ?_⟩
  rcases List.mem_append.1 hq with h | h
  · exact w.ge q (List.mem_append_left _ h)
  · rcases List.mem_cons.1 h with rfl | h
    · have h1 := w.ge (a, t, old) hm
      exact h1
    · exact w.ge q (List.mem_append_right _ (List.mem_cons_of_mem _ h))
theorem Goes.wstore {O : Orc} (l1 : Vrs) {l2 : Vrs} {a : Nat} {ty : TypeId} {old : List AV} (w : Wv st0 st (l1 ++ (a, ty, old) :: l2) z e v ws) {y : Nat} {u : AV} {cs : List AV} {K : Kv β}
    (g : ∀ s fx, s.h = st.h → Wv st0 s (l1 ++ (a, ty, cs) :: l2) z e v ws → Goes (K VM.undef s fx) Q) (hz : old.length = y := by rfl) (hc : cs.length = y := by rfl) : Goes (storeS O y (.mp a 0) u cs st K) Q := by
  have hm : (a, ty, old) ∈ l1 ++ (a, ty, old) :: l2 := List.mem_append_right _ List.mem_cons_self
  have e1 : storeS O y (.mp a 0) u cs st K = K VM.undef (st.put a (.cells ty cs)) ⟨[a], .wrote a (.cells ty cs)⟩ := by
    rw [storeS_at (w.w.get hm) hc (by omega) (w.w.v _ hm).2, splice_all (by omega)]
  exact Goes.step e1 (g _ _ rfl w.putAt)
theorem Goes.wstoreF {O : Orc} (l1 : Vrs) {l2 : Vrs} {a : Nat} {ty : TypeId} {old : List AV} (w : Wv st0 st (l1 ++ (a, ty, old) :: l2) z e v ws) {off : Nat} {u : AV} (hl : off + 1 ≤ old.length) {K : Kv β}
    (g : ∀ s fx, s.h = st.h → Wv st0 s (l1 ++ (a, ty, splice old off [u]) :: l2) z e v ws → Goes (K VM.undef s fx) Q) : Goes (storeS O 1 (.mp a off) u [u] st K) Q := by
  have hm : (a, ty, old) ∈ l1 ++ (a, ty, old) :: l2 := List.mem_append_right _ List.mem_cons_self
  exact Goes.step (storeS_at (cs := [u]) (z := 1) (w.w.get hm) rfl hl (w.w.v _ hm).2 K) (g _ _ rfl w.putAt)
theorem Goes.wapp (w : Wv st0 st l z e v ws) {b : Nat} {x : AV} (hr : ws.length + 1 ≤ 1000000000) (hb : b ≤ 1000) (hz : 1 ≤ z) {K : Kv β} (g : ∀ v' s fx, Wv st0 s l z e v' (ws ++ [x]) → Goes (K v' s fx) Q) : Goes (appS z b e v [x] st K) Q := by
  obtain ⟨v', s, fx, e1, o1, k1, n1⟩ := app_own (b := b) (new := [x]) w.o (by simp) (room_of (by simpa using hr) hb hz)
  refine Goes.step (appS_of e1 K) (g v' s fx ⟨w.w.keeps k1 (fun q hq h => w.o.not (w.w.v q hq).1 h), o1, fun j hj => ?_, keeps_fresh w.k k1 w.nw, w.ge⟩)
  rcases n1 j hj with h | h
  · exact w.nw j h
  · exact Nat.le_trans w.k.h h
/-- Variables, and a slice whose end one owns. -/
structure Vo (st : St) (l : Vrs) (z : Nat) (e : TypeId) (v : AV) (ws : List AV) : Prop where
  w : Vw st l
  o : Own st z e v ws
theorem Vo.call {s : St} {v' : AV} {ws' : List AV} {l' : Vrs} {z' : Nat} {e' : TypeId} (w : Vo st l z e v ws) (r : Wv st s l' z' e' v' ws') : Vo s l z' e' v' ws' := ⟨w.w.keeps r.k (fun _ _ f => f), r.o⟩
theorem Vo.new {v' : AV} {ws' : List AV} (w : Vo st l z e v ws) (h : (v' = .nils ∨ v' = .es) ∧ ws' = [] ∨ v' = .sl z ws' .shut) (hl : ws'.length ≤ 9223372036854775807) : Vo st l z e v' ws' := ⟨w.w, w.w.ro, hl, by
  rcases h with h | h
  · exact .inl h
  · exact .inr (.inl h)⟩
theorem frz_agg {base : Nat} {vs xs : List AV} (h : allE (freeze st base 99) vs = .ok xs) (hb : bares xs = true) (K : AV → Option β) : frzS st base (.agg vs) K = K (.agg xs) := by
  have e2 : freeze st base 100 (.agg vs) = .ok (.agg xs) := by
    show (do pure (.agg (← allE (freeze st base 99) vs)) : Res AV) = _
    rw [h]; rfl
  have e3 : bare (.agg xs) = true := hb
  simp only [frzS, e2, e3, chk_true]
end
theorem take_snoc {α : Type} {l : List α} {i : Nat} (hi : i < l.length) : l.take (i + 1) = l.take i ++ [l[i]] := by rw [List.take_add_one, List.getElem?_eq_getElem hi]; rfl
end Go.VM
/- Rows (slices that may be written), a range over a string, appends and what they did. -/
namespace Go.VM
open Go.Lib
theorem Keeps.join {a b c : St} {p q : Nat → Prop} (h : Keeps a b p) (k : Keeps b c q) (hq : ∀ j, q j → p j ∨ a.h ≤ j) : Keeps a c p :=
  ⟨k.ro.trans h.ro, Nat.le_trans h.h k.h, fun j o hj hg => k.old j o (fun e => by
    rcases hq j e with h1 | h1
    · exact hj h1
    · have := (St.get_ok.1 hg).1
      omega) (h.old j o hj hg)⟩
theorem IsSl.fit {z : Nat} {x : AV} {es : List AV} (h : IsSl z x es) : VM.fit x = .ok x := by
  rcases h.2 with ⟨rfl | rfl, rfl⟩ | rfl | rfl <;> rfl
section
variable {O : Orc} {β : Type} {st : St}
/-- Rows: a load, a store, an element's address, an append. -/
theorem loadS_gp {k m off : Nat} {e : TypeId} {z : Nat} {cs : List AV} (h : st.get k = .ok (.row m e z cs)) (y : Nat) (g : Bool) (K : AV → List Nat → Option β) :
    loadS y g (.gp k m off) st K = bindO (takeO y g (cs.drop off)) fun v => K v [k] := by
  unfold loadS loadO takeO
  dsimp only
  rw [h]
  dsimp only
  rw [Nat.beq_refl]
  dsimp only
  cases takeCells y g (cs.drop off) <;> rfl
theorem idxA_gs {k n : Nat} {e : TypeId} {z : Nat} {cs : List AV} (h : st.get k = .ok (.row n e z cs)) {i : Nat} (hi : i < n) (K : AV → List Nat → Option β) : idxA z (.gs k z n) (i : Int) st K = K (.gp k n (i * z)) [k] := by
  have h1 : insideO (i : Int) n = some i := by
    show (match i.blt n with | true => some i | false => none) = _
    rw [show i.blt n = true by rw [Nat.blt_eq]; exact hi]
  have h2 : (n.beq n && z.beq z) = true := by rw [Nat.beq_refl, Nat.beq_refl]; rfl
  simp only [idxA, idxO, Nat.beq_refl, h1, h, Bool.and_self, bindO_ok]
end
end Go.VM
