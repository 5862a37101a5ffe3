/-
  A part of the proof.
-/
import Derived.Test.YtmnpladggilgbaaGreatDoorVmBE
import Derived.Lib.TrimUEq
/- UTF-8 by its bytes: how many bytes a character has; what is valid; how many characters. -/
namespace Go.VM
open Go.Lib
end Go.VM
/- UTF-8: how many characters, by the library's count. -/
namespace Go.VM
open Go.Lib
section
variable {β : Type} {O : Orc}
end
end Go.VM
/- Small facts that walks of shallow forms want; slices that own their ends, side by side; bytes of a text. -/
namespace Go.VM
open Go
@[simp] theorem oneOf_one (v : AV) : oneOf [v] = v := id rfl
@[simp] theorem notNil_ip (cs : List AV) : notNil (.ip cs) = true := id rfl
@[simp] theorem notNil_mp (i o : Nat) : notNil (.mp i o) = true := id rfl
@[simp] theorem drop1 (a : AV) (l : List AV) : (a :: l).drop 1 = l := id rfl
@[simp] theorem drop2 (a b : AV) (l : List AV) : (a :: b :: l).drop 2 = l := id rfl
@[simp] theorem drop3 (a b c : AV) (l : List AV) : (a :: b :: c :: l).drop 3 = l := id rfl
@[simp] theorem drop4 (a b c d : AV) (l : List AV) : (a :: b :: c :: d :: l).drop 4 = l := id rfl
@[simp] theorem drop5 (a b c d e : AV) (l : List AV) : (a :: b :: c :: d :: e :: l).drop 5 = l := id rfl
@[simp] theorem takeO1 (a : AV) (l : List AV) : takeO 1 true (a :: l) = some (.agg [a]) := id rfl
@[simp] theorem takeO2 (a b : AV) (l : List AV) : takeO 2 true (a :: b :: l) = some (.agg [a, b]) := id rfl
@[simp] theorem takeO3 (a b c : AV) (l : List AV) : takeO 3 true (a :: b :: c :: l) = some (.agg [a, b, c]) := id rfl
@[simp] theorem takeO4 (a b c d : AV) (l : List AV) : takeO 4 true (a :: b :: c :: d :: l) = some (.agg [a, b, c, d]) := id rfl
@[simp] theorem cells_agg (cs : List AV) : AV.cells (.agg cs) = cs := id rfl
@[simp] theorem cells_str (s : List UInt8) : AV.cells (.str s) = [.str s] := id rfl
@[simp] theorem cells_int (k : IntKind) (n : Int) : AV.cells (.int k n) = [.int k n] := id rfl
@[simp] theorem cells_fn (f : Fn) (a b : List AV) : AV.cells (.fn f a b) = [.fn f a b] := id rfl
@[simp] theorem apart_made1 (i : Nat) (o : VM.Obj) : apart q0 ⟨[], .made i o⟩ = true := id rfl
@[simp] theorem apart_made2 (i : Nat) (o : VM.Obj) : apart ⟨[], .kept⟩ ⟨[], .made i o⟩ = true := id rfl
@[simp] theorem apart_wrote1 (i : Nat) (o : VM.Obj) : apart ⟨[], .kept⟩ ⟨[i], .wrote i o⟩ = true := id rfl
theorem wrapN {n : Nat} (h : n ≤ 9223372036854775807) : IntKind.wrap .i64 (n : Int) = (n : Int) := wrap_i64 (by omega) (by omega)
theorem wrapA {n m : Nat} (h : n + m ≤ 9223372036854775807) : IntKind.wrap .i64 ((n : Int) + (m : Int)) = ((n + m : Nat) : Int) := by rw [← Int.natCast_add]; exact wrapN h
theorem wrapA1 {n : Nat} (h : n + 1 ≤ 9223372036854775807) : IntKind.wrap .i64 ((n : Int) + 1) = ((n + 1 : Nat) : Int) := wrapA (m := 1) h
theorem wrapS {n m : Nat} (h : m ≤ n) (hn : n ≤ 9223372036854775807) : IntKind.wrap .i64 ((n : Int) - (m : Int)) = ((n - m : Nat) : Int) := by rw [← wrapN (n := n - m) (by omega)]; congr 1; omega
/-! Slices that own their ends. -/
end Go.VM
/- Appends of many elements; tuples of what freezing leaves; arrays that may be written. -/
namespace Go.VM
open Go
/-! Arrays that may be written: a slice over all of an object's cells. -/
/-- Elements that are written cell by cell. -/
structure Els (z : Nat) (agg : Bool) (es : List AV) : Prop where
  one : ∀ v ∈ es, ones v.cells = true
  size : ∀ v ∈ es, v.cells.length = z
  fit : ∀ v ∈ es, ∀ c ∈ v.cells, Fz 1 c
  fits : ∀ v ∈ es, VM.fit v = .ok v
  shape : ∀ v ∈ es, agg = true → ∃ cs, v = .agg cs
  notagg : ∀ v ∈ es, agg = false → VM.one v = true
theorem Els.set {z : Nat} {agg : Bool} {es : List AV} (he : Els z agg es) {k : Nat} {w : AV} (hw : Els z agg [w]) : Els z agg (es.set k w) := by
  have key : ∀ v ∈ es.set k w, v ∈ es ∨ v = w := fun v hv => List.mem_or_eq_of_mem_set hv
  have hm : w ∈ [w] := by simp
  exact ⟨fun v hv => (key v hv).elim (he.one v) (fun e => e ▸ hw.one w hm), fun v hv => (key v hv).elim (he.size v) (fun e => e ▸ hw.size w hm),
    fun v hv => (key v hv).elim (he.fit v) (fun e => e ▸ hw.fit w hm), fun v hv => (key v hv).elim (he.fits v) (fun e => e ▸ hw.fits w hm),
    fun v hv => (key v hv).elim (he.shape v) (fun e => e ▸ hw.shape w hm), fun v hv => (key v hv).elim (he.notagg v) (fun e => e ▸ hw.notagg w hm)⟩
/-! What reads the same before and after a call. -/
def Rf (d : Nat) (v : AV) : Prop := ∀ f, d ≤ f → sameAV f v v = true
theorem Rf.mono {d e : Nat} {v : AV} (h : Rf d v) (hd : d ≤ e) : Rf e v := fun f hf => h f (Nat.le_trans hd hf)
/-- What is new in between may be written. -/
theorem Keeps.fresh {a b c : St} {p : Nat → Prop} {i : Nat} (h : Keeps a b p) (k : Keeps b c (· = i)) (hi : a.h ≤ i) : Keeps a c p :=
  ⟨k.ro.trans h.ro, Nat.le_trans h.h k.h, fun j o hj hg => k.old j o (fun e => by
    have := (St.get_ok.1 hg).1
    omega) (h.old j o hj hg)⟩
end Go.VM
/- What is left to do ends well: steps from the front. -/
namespace Go.VM
open Go
/-- It comes to something of which this is true. -/
def Goes {β : Type} (e : Option β) (Q : β → Prop) : Prop := ∃ b, e = some b ∧ Q b
section
variable {β : Type} {Q : β → Prop} {E : Env} {st : St}
theorem Goes.step {e e' : Option β} (h : e = e') (g : Goes e' Q) : Goes e Q := h ▸ g
theorem Goes.some {b : β} (h : Q b) : Goes (.some b) Q := ⟨b, rfl, h⟩
theorem Goes.mono {e : Option β} {Q' : β → Prop} (h : Goes e Q) (k : ∀ b, Q b → Q' b) : Goes e Q' := by
  obtain ⟨b, e, h⟩ := h
  exact ⟨b, e, k b h⟩
theorem Goes.bind {α : Type} {e : Option α} {R : α → Prop} {K : α → Option β} (h : Goes e R) (g : ∀ a, R a → Goes (K a) Q) : Goes (bindO e K) Q := by
  obtain ⟨a, e, h⟩ := h
  rw [e]
  exact g a h
theorem Goes.wide {F : FuncId} {args : List AV} {Q : AV × St → Prop} (h : Goes (wideS E F args st) Q) : Goes ((orc E).wide F args st) Q := by
  obtain ⟨b, e, h⟩ := h
  exact ⟨b, wide_of e, h⟩
theorem Goes.bare {F : FuncId} {args : List AV} {Q : AV → Prop} (hm : (E.memo F, (E.rule F).isSome) = ([], false)) (h : Goes (bareS E F args) Q) : Goes ((orc E).bare F args) Q := by
  obtain ⟨b, e, h⟩ := h
  exact ⟨b, bare_of hm e, h⟩
theorem Goes.one {v : AV} (h : VM.one v = true) {e : Option β} (g : Goes e Q) : Goes (asOne v e) Q := Goes.step (asOne_of h e) g
/-- A loop that ends by what gets less. -/
theorem Goes.loop {σ : Type} {F : σ → Option (Sum σ β)} {I : Nat → σ → Prop} (h : ∀ n s, I n s → Goes (F s) fun r => match r with
    | .inl s' => ∃ m, m < n ∧ I m s'
    | .inr b => Q b) : ∀ n s, I n s → Goes (loopO F s) Q := by
  intro n
  induction n using Nat.strongRecOn with
  | _ n ih =>
    intro s hs
    obtain ⟨r, e, hr⟩ := h n s hs
    cases r with
    | inl s' =>
      obtain ⟨m, hm, hi⟩ := hr
      rw [loopO_inl e]
      exact ih m hm s' hi
    | inr b => exact ⟨b, loopO_inr e, hr⟩
/-! Variables of a function. -/
abbrev Vrs := List (Nat × TypeId × List AV)
structure Vw (st : St) (l : Vrs) : Prop where
  v : ∀ q ∈ l, st.get q.1 = .ok (.cells q.2.1 q.2.2) ∧ st.ro ≤ q.1
  nd : (l.map (·.1)).Nodup
  ro : st.ro ≤ st.h
variable {l l1 l2 : Vrs}
theorem Vw.get (w : Vw st l) {a : Nat} {t : TypeId} {cs : List AV} (h : (a, t, cs) ∈ l) : st.get a = .ok (.cells t cs) := (w.v _ h).1
theorem Vw.sub {l' : Vrs} (w : Vw st l) (h : List.Sublist l' l) : Vw st l' := ⟨fun q hq => w.v q (h.subset hq), (h.map _).nodup w.nd, w.ro⟩
theorem Vw.alloc (w : Vw st l) (t : TypeId) (cs : List AV) : Vw (st.add (.cells t cs)) ((st.h, t, cs) :: l) := by
  refine ⟨fun q hq => ?_, ?_, Nat.le_succ_of_le w.ro⟩
  · rcases List.mem_cons.1 hq with rfl | hq
    · exact ⟨St.get_add_new, w.ro⟩
    · exact ⟨St.get_add_old (w.v q hq).1, (w.v q hq).2⟩
  · rw [List.map_cons, List.nodup_cons]
    refine ⟨fun hm => ?_, w.nd⟩
    obtain ⟨q, hq, e⟩ := List.mem_map.1 hm
    have h1 := (St.get_ok.1 (w.v q hq).1).1
    simp only at e
    omega
end
end Go.VM
