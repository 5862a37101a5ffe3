/-
  (A part of the proof: Utf, Utf2, Kit3, Kit4, Kit5.)
-/
import Derived.Test.YtoopmjhdgkcleaaGreatDoorVmBF
import Derived.Test.YtoopmjhdgkcleaaGreatDoorVmBA
import Derived.Lib.TrimUEq
import Derived.Lib.ValidU
/- UTF-8 by its bytes: how many bytes a character has; what is valid; how many characters. -/
namespace Go.VM
open Go.Lib

end Go.VM
/- UTF-8: how many characters, by the library's count. -/
namespace Go.VM
open Go.Lib

section
variable {β : Type} {O : Orc}
end
end Go.VM
/- Small facts that walks of shallow forms want; slices that own their ends, side by side; bytes of a text. -/
namespace Go.VM
open Go

@[simp] theorem oneOf_one (v : AV) : oneOf [v] = v := id rfl
@[simp] theorem notNil_ip (cs : List AV) : notNil (.ip cs) = true := id rfl
@[simp] theorem notNil_mp (i o : Nat) : notNil (.mp i o) = true := id rfl
@[simp] theorem drop1 (a : AV) (l : List AV) : (a :: l).drop 1 = l := id rfl
@[simp] theorem drop2 (a b : AV) (l : List AV) : (a :: b :: l).drop 2 = l := id rfl
@[simp] theorem drop3 (a b c : AV) (l : List AV) : (a :: b :: c :: l).drop 3 = l := id rfl
@[simp] theorem drop4 (a b c d : AV) (l : List AV) : (a :: b :: c :: d :: l).drop 4 = l := id rfl
@[simp] theorem drop5 (a b c d e : AV) (l : List AV) : (a :: b :: c :: d :: e :: l).drop 5 = l := id rfl
@[simp] theorem takeO1 (a : AV) (l : List AV) : takeO 1 true (a :: l) = some (.agg [a]) := id rfl
@[simp] theorem takeO2 (a b : AV) (l : List AV) : takeO 2 true (a :: b :: l) = some (.agg [a, b]) := id rfl
@[simp] theorem takeO3 (a b c : AV) (l : List AV) : takeO 3 true (a :: b :: c :: l) = some (.agg [a, b, c]) := id rfl
@[simp] theorem takeO4 (a b c d : AV) (l : List AV) : takeO 4 true (a :: b :: c :: d :: l) = some (.agg [a, b, c, d]) := id rfl
@[simp] theorem cells_agg (cs : List AV) : AV.cells (.agg cs) = cs := id rfl
@[simp] theorem cells_str (s : List UInt8) : AV.cells (.str s) = [.str s] := id rfl
@[simp] theorem cells_int (k : IntKind) (n : Int) : AV.cells (.int k n) = [.int k n] := id rfl
@[simp] theorem cells_fn (f : Fn) (a b : List AV) : AV.cells (.fn f a b) = [.fn f a b] := id rfl
@[simp] theorem apart_made1 (i : Nat) (o : VM.Obj) : apart q0 ⟨[], .made i o⟩ = true := id rfl
@[simp] theorem apart_made2 (i : Nat) (o : VM.Obj) : apart ⟨[], .kept⟩ ⟨[], .made i o⟩ = true := id rfl
@[simp] theorem apart_wrote1 (i : Nat) (o : VM.Obj) : apart ⟨[], .kept⟩ ⟨[i], .wrote i o⟩ = true := id rfl
theorem wrapN {n : Nat} (h : n ≤ 9223372036854775807) : IntKind.wrap .i64 (n : Int) = (n : Int) := wrap_i64 (by omega) (by omega)
theorem wrapA {n m : Nat} (h : n + m ≤ 9223372036854775807) : IntKind.wrap .i64 ((n : Int) + (m : Int)) = ((n + m : Nat) : Int) := by rw [← Int.natCast_add]; exact wrapN h
theorem wrapA1 {n : Nat} (h : n + 1 ≤ 9223372036854775807) : IntKind.wrap .i64 ((n : Int) + 1) = ((n + 1 : Nat) : Int) := wrapA (m := 1) h
theorem wrapS {n m : Nat} (h : m ≤ n) (hn : n ≤ 9223372036854775807) : IntKind.wrap .i64 ((n : Int) - (m : Int)) = ((n - m : Nat) : Int) := by rw [← wrapN (n := n - m) (by omega)]; congr 1; omega
theorem ble_of {a b : Nat} (h : a ≤ b) : Nat.ble a b = true := Nat.ble_eq_true_of_le h
/-! Slices that own their ends. -/
theorem own_keep {st st' : St} {z : Nat} {e : TypeId} {v : AV} {es : List AV} {but : Nat → Prop} (h : Own st z e v es) (k : Keeps st st' but) (hb : ∀ j, ownerOf v j → ¬ but j) : Own st' z e v es := by
  refine ⟨by rw [k.ro]; exact Nat.le_trans h.1 k.h, h.2.1, ?_⟩
  rcases h.2.2 with h | h | ⟨j, hv, hg, hr⟩
  · exact .inl h
  · exact .inr (.inl h)
  · exact .inr (.inr ⟨j, hv, k.old _ _ (hb j ⟨_, _, hv⟩) hg, by rw [k.ro]; exact hr⟩)
theorem own_two {st : St} {z z' : Nat} {e e' : TypeId} {v v' : AV} {es es' : List AV} (h : Own st z e v es) (h' : Own st z' e' v' es') (hne : e ≠ e') : ∀ j, ownerOf v j → ¬ ownerOf v' j := by
  rintro j ⟨y, l, rfl⟩ ⟨y', l', rfl⟩
  rcases h with ⟨_, _, ⟨h | h, _⟩ | h | ⟨k, h, hg, _⟩⟩
  · cases h
  · cases h
  · cases h
  · cases h
    rcases h' with ⟨_, _, ⟨h' | h', _⟩ | h' | ⟨k, h', hg', _⟩⟩
    · cases h'
    · cases h'
    · cases h'
    · cases h'
      rw [hg] at hg'
      simp only [Except.ok.injEq, VM.Obj.tok.injEq] at hg'
      exact hne hg'.2
theorem own_len {st : St} {z : Nat} {e : TypeId} {x : AV} {es : List AV} (h : Own st z e x es) {β : Type} (K : Nat → Option β) : lenS x K = K es.length := by
  rcases h.2.2 with ⟨rfl | rfl, rfl⟩ | rfl | ⟨k, rfl, _⟩ <;> rfl
theorem room_of {n z b : Nat} (hn : n ≤ 1000000000) (hb : b ≤ 1000) (hz : 1 ≤ z) : roomOk n ⟨.other, z, b, [], false, false⟩ = true := by
  have : n * b ≤ 1000000000 * 1000 := Nat.mul_le_mul hn hb
  simp only [roomOk, ble_of (show n * b ≤ 70368744177664 by omega), ble_of (show n ≤ 70368744177664 by omega), ble_of hz]; rfl
/-- Such a slice frozen among others. -/
theorem own_freeze {st : St} {z : Nat} {e : TypeId} {v : AV} {es : List AV} (h : Own st z e v es) : ∃ x, IsSl z x es ∧ ∀ n, freeze st 0 (n + 1) v = .ok x := by
  rcases h with ⟨_, hl, ⟨rfl | rfl, rfl⟩ | rfl | ⟨k, rfl, _, _⟩⟩
  · exact ⟨.nils, IsSl.nils, fun _ => rfl⟩
  · exact ⟨.es, IsSl.emp, fun _ => rfl⟩
  · exact ⟨.sl z es .shut, IsSl.shut hl, fun _ => rfl⟩
  · exact ⟨.sl z es .wide, IsSl.wide hl, fun _ => rfl⟩
end Go.VM
/- Appends of many elements; tuples of what freezing leaves; arrays that may be written. -/
namespace Go.VM
open Go

theorem fitTs_of {agg : Bool} {β : Type} : ∀ {l : List AV} (_ : ∀ v ∈ l, ∀ (K : AV → Option β), fitT agg v K = K v) (K : List AV → Option β), fitTs agg l K = K l
  | [], _, _ => rfl
  | v :: l, h, K => by
    show fitT agg v (fun v' => fitTs agg l fun l' => K (v' :: l')) = _
    rw [h v (by simp), fitTs_of fun u hu => h u (List.mem_cons_of_mem _ hu)]
theorem sizesOk_of {z : Nat} {l : List AV} (h : ∀ v ∈ l, v.cells.length = z) : sizesOk z l = true := by
  refine List.all_eq_true.2 fun v hv => ?_
  rw [h v hv]; exact Nat.beq_refl z
/-! Arrays that may be written: a slice over all of an object's cells. -/
/-- Elements that are written cell by cell. -/
structure Els (z : Nat) (agg : Bool) (es : List AV) : Prop where
  one : ∀ v ∈ es, ones v.cells = true
  size : ∀ v ∈ es, v.cells.length = z
  fit : ∀ v ∈ es, ∀ c ∈ v.cells, Fz 1 c
  fits : ∀ v ∈ es, VM.fit v = .ok v
  shape : ∀ v ∈ es, agg = true → ∃ cs, v = .agg cs
  notagg : ∀ v ∈ es, agg = false → VM.one v = true
theorem flatEl_len {z : Nat} : ∀ {es : List AV}, (∀ v ∈ es, v.cells.length = z) → (flat es).length = es.length * z
  | [], _ => by simp [flat]
  | v :: l, h => by
    show (v.cells ++ flat l).length = _
    rw [List.length_append, h v (by simp), flatEl_len fun u hu => h u (List.mem_cons_of_mem _ hu), List.length_cons, Nat.add_mul]
    omega
theorem flatEl_set {z : Nat} : ∀ {es : List AV} (_ : ∀ v ∈ es, v.cells.length = z) {k : Nat} (w : AV) (_ : w.cells.length = z) (_ : k < es.length), splice (flat es) (k * z) w.cells = flat (es.set k w)
  | [], _, k, w, _, h => by simp at h
  | u :: l, hz, 0, w, hw, h => by
    have hu := hz u (by simp)
    show (u.cells ++ flat l).take (0 * z) ++ w.cells ++ (u.cells ++ flat l).drop (0 * z + w.cells.length) = w.cells ++ flat l
    rw [Nat.zero_mul, List.take_zero, List.nil_append, Nat.zero_add, hw, ← hu, List.drop_left]
  | u :: l, hz, k + 1, w, hw, h => by
    have hu := hz u (by simp)
    have ih := flatEl_set (fun x hx => hz x (List.mem_cons_of_mem _ hx)) w hw (show k < l.length by simpa using h)
    have e : (k + 1) * z = u.cells.length + k * z := by rw [hu, Nat.add_mul]; omega
    show (u.cells ++ flat l).take ((k + 1) * z) ++ w.cells ++ (u.cells ++ flat l).drop ((k + 1) * z + w.cells.length) = u.cells ++ flat (l.set k w)
    rw [← ih, e, List.take_append, List.take_of_length_le (by omega), Nat.add_assoc, ← List.drop_drop, List.drop_left]
    show u.cells ++ (flat l).take (u.cells.length + k * z - u.cells.length) ++ w.cells ++ _ = u.cells ++ ((flat l).take (k * z) ++ w.cells ++ (flat l).drop (k * z + w.cells.length))
    rw [Nat.add_sub_cancel_left]
    simp only [List.append_assoc]
theorem idx_ms {β : Type} {z id n c k : Nat} (hk : k < n) (st : St) (K : AV → List Nat → Option β) : idxA z (.ms id 0 z n c) (k : Int) st K = K (.mp id (k * z)) [] := by
  have hz : z.beq z = true := Nat.beq_refl z
  have hi : insideO (k : Int) n = some k := by
    show (match k.blt n with | true => some k | false => none) = _
    rw [blt_true.2 hk]
  simp only [idxA, idxO, hz, hi, bindO_ok, Nat.zero_add]
theorem store_el {O : Orc} {z : Nat} {agg : Bool} {es : List AV} (he : Els z agg es) {st : St} {id : Nat} {t : TypeId} (hg : st.get id = .ok (.cells t (flat es))) (hro : st.ro ≤ id) {k : Nat} (hk : k < es.length) {w : AV} (hw : w.cells.length = z) :
    ∃ fx, fx = Fx.mk [id] (.wrote id (.cells t (flat (es.set k w)))) ∧ ∀ {β : Type} (K : Kv β), storeS O z (.mp id (k * z)) w w.cells st K = K undef (st.put id (.cells t (flat (es.set k w)))) fx := by
  refine ⟨_, rfl, fun K => ?_⟩
  have hle : k * z + w.cells.length ≤ (flat es).length := by
    rw [flatEl_len he.size, hw]
    have : (k + 1) * z ≤ es.length * z := Nat.mul_le_mul_right z hk
    rw [Nat.add_mul] at this
    omega
  rw [storeS_at hg hw hle hro, flatEl_set he.size w hw hk]
theorem Els.set {z : Nat} {agg : Bool} {es : List AV} (he : Els z agg es) {k : Nat} {w : AV} (hw : Els z agg [w]) : Els z agg (es.set k w) := by
  have key : ∀ v ∈ es.set k w, v ∈ es ∨ v = w := fun v hv => List.mem_or_eq_of_mem_set hv
  have hm : w ∈ [w] := by simp
  exact ⟨fun v hv => (key v hv).elim (he.one v) (fun e => e ▸ hw.one w hm), fun v hv => (key v hv).elim (he.size v) (fun e => e ▸ hw.size w hm),
    fun v hv => (key v hv).elim (he.fit v) (fun e => e ▸ hw.fit w hm), fun v hv => (key v hv).elim (he.fits v) (fun e => e ▸ hw.fits w hm),
    fun v hv => (key v hv).elim (he.shape v) (fun e => e ▸ hw.shape w hm), fun v hv => (key v hv).elim (he.notagg v) (fun e => e ▸ hw.notagg w hm)⟩
theorem planS_new {β : Type} {O : Orc} (o : Obj) (f : Nat → AV) (st : St) (K : Kv β) : planS O (.ok (.new o f)) st K = K (f st.h) (st.add o) ⟨[], .made st.h o⟩ := id rfl
theorem flat_bytes : ∀ (s : List UInt8), flat (ofBytes s) = ofBytes s
  | [] => rfl
  | b :: l => by
    show [AV.int .u8 b.toNat] ++ flat (ofBytes l) = _
    rw [flat_bytes l]; rfl
theorem zeros_bytes : ∀ (n : Nat), zeros [AV.int .u8 0] n = ofBytes (List.replicate n 0)
  | 0 => rfl
  | n + 1 => by
    show [AV.int .u8 0] ++ zeros [AV.int .u8 0] n = _
    rw [zeros_bytes n, List.replicate_succ]; rfl
theorem bytes_els (s : List UInt8) : Els 1 false (ofBytes s) := by
  have key : ∀ v ∈ ofBytes s, ∃ n : Int, v = .int .u8 n := fun v hv => by
    obtain ⟨b, _, rfl⟩ := List.mem_map.1 hv
    exact ⟨_, rfl⟩
  refine ⟨fun v hv => ?_, fun v hv => ?_, fun v hv c hc => ?_, fun v hv => ?_, fun v hv h => (by cases h), fun v hv _ => ?_⟩
  · obtain ⟨p, rfl⟩ := key v hv; rfl
  · obtain ⟨p, rfl⟩ := key v hv; rfl
  · obtain ⟨p, rfl⟩ := key v hv
    have hc : c ∈ [AV.int .u8 p] := hc
    rw [List.mem_singleton] at hc
    subst hc; exact fz_int _ _
  · obtain ⟨p, rfl⟩ := key v hv; rfl
  · obtain ⟨p, rfl⟩ := key v hv; rfl
theorem bytesOf_bytes : ∀ (s : List UInt8), bytesOf (ofBytes s) = .ok s
  | [] => rfl
  | b :: l => by
    have ih := bytesOf_bytes l
    simp only [ofBytes, List.map_cons] at ih ⊢
    simp only [bytesOf, ih, ok_bind]
    simp [pure_eq]
/-! What reads the same before and after a call. -/
def Rf (d : Nat) (v : AV) : Prop := ∀ f, d ≤ f → sameAV f v v = true
theorem Rf.mono {d e : Nat} {v : AV} (h : Rf d v) (hd : d ≤ e) : Rf e v := fun f hf => h f (Nat.le_trans hd hf)
theorem sameStr_refl : ∀ s : List UInt8, sameStr s s = true
  | [] => rfl
  | a :: l => by simp only [sameStr, Nat.beq_refl]; exact sameStr_refl l
theorem sameAll_refl {g : AV → AV → Bool} : ∀ {l : List AV}, (∀ v ∈ l, g v v = true) → sameAll g l l = true
  | [], _ => rfl
  | v :: l, h => by simp only [sameAll, h v (by simp)]; exact sameAll_refl fun u hu => h u (List.mem_cons_of_mem _ hu)
theorem rf_bool (b : Bool) : Rf 1 (.bool b) := fun f hf => by cases f with | zero => omega | succ f => show (b == b) = true; simp
theorem rf_int (k : IntKind) (n : Int) : Rf 1 (.int k n) := fun f hf => by cases f with | zero => omega | succ f => show (decide (k = k) && decide (n = n)) = true; simp
theorem rf_str (s : List UInt8) : Rf 1 (.str s) := fun f hf => by cases f with | zero => omega | succ f => exact sameStr_refl s
theorem rf_nils : Rf 1 .nils := fun f hf => by cases f with | zero => omega | succ f => rfl
theorem rf_es : Rf 1 .es := fun f hf => by cases f with | zero => omega | succ f => rfl
theorem rf_agg {d : Nat} {cs : List AV} (h : ∀ c ∈ cs, Rf d c) : Rf (d + 1) (.agg cs) := fun f hf => by
  cases f with
  | zero => omega
  | succ f => exact sameAll_refl fun v hv => h v hv f (by omega)
theorem rf_sl {d z : Nat} {p : Perm} {cs : List AV} (h : ∀ c ∈ cs, Rf d c) : Rf (d + 1) (.sl z cs p) := fun f hf => by
  cases f with
  | zero => omega
  | succ f =>
    show (z.beq z && decide (p = p) && sameAll (sameAV f) cs cs) = true
    rw [sameAll_refl fun v hv => h v hv f (by omega)]
    simp
theorem sameAt_of {st st' : St} {i : Nat} {t : TypeId} {cs : List AV} {d : Nat} (h1 : st.get i = .ok (.cells t cs)) (h2 : st'.get i = .ok (.cells t cs)) (h : ∀ c ∈ cs, Rf d c) (hd : d ≤ 1000000000000000000) : sameAt st st' i = true := by
  have e : sameAll (sameAV 1000000000000000000) cs cs = true := sameAll_refl fun v hv => h v hv _ hd
  unfold sameAt
  rw [h1, h2]
  show (t.beq t && sameAll (sameAV 1000000000000000000) cs cs) = true
  rw [e]; simp
theorem apart_all {st st' : St} {i : Nat} (h : sameAt st st' i = true) : apart ⟨[i], .kept⟩ ⟨[], .all st st'⟩ = true := by
  show ([i].all (sameAt st st')) = true
  simp [h]
theorem apart_all0 {st st' : St} : apart ⟨[], .kept⟩ ⟨[], .all st st'⟩ = true := id rfl
theorem Keeps.weak {st st' : St} {p q : Nat → Prop} (k : Keeps st st' p) (h : ∀ j, p j → q j) : Keeps st st' q := ⟨k.ro, k.h, fun j o hj => k.old j o fun hp => hj (h j hp)⟩
/-- What is new in between may be written. -/
theorem Keeps.fresh {a b c : St} {p : Nat → Prop} {i : Nat} (h : Keeps a b p) (k : Keeps b c (· = i)) (hi : a.h ≤ i) : Keeps a c p :=
  ⟨k.ro.trans h.ro, Nat.le_trans h.h k.h, fun j o hj hg => k.old j o (fun e => by
    have := (St.get_ok.1 hg).1
    omega) (h.old j o hj hg)⟩
end Go.VM
/- What is left to do ends well: steps from the front. -/
namespace Go.VM
open Go

/-- It comes to something of which this is true. -/
def Goes {β : Type} (e : Option β) (Q : β → Prop) : Prop := ∃ b, e = some b ∧ Q b
section
variable {β : Type} {Q : β → Prop} {E : Env} {st : St}
theorem Goes.step {e e' : Option β} (h : e = e') (g : Goes e' Q) : Goes e Q := h ▸ g
theorem Goes.some {b : β} (h : Q b) : Goes (.some b) Q := ⟨b, rfl, h⟩
theorem Goes.mono {e : Option β} {Q' : β → Prop} (h : Goes e Q) (k : ∀ b, Q b → Q' b) : Goes e Q' := by
  obtain ⟨b, e, h⟩ := h
  exact ⟨b, e, k b h⟩
theorem Goes.bind {α : Type} {e : Option α} {R : α → Prop} {K : α → Option β} (h : Goes e R) (g : ∀ a, R a → Goes (K a) Q) : Goes (bindO e K) Q := by
  obtain ⟨a, e, h⟩ := h
  rw [e]
  exact g a h
theorem Goes.wide {F : FuncId} {args : List AV} {Q : AV × St → Prop} (h : Goes (wideS E F args st) Q) : Goes ((orc E).wide F args st) Q := by
  obtain ⟨b, e, h⟩ := h
  exact ⟨b, wide_of e, h⟩
theorem Goes.bare {F : FuncId} {args : List AV} {Q : AV → Prop} (hm : (E.memo F, (E.rule F).isSome) = ([], false)) (h : Goes (bareS E F args) Q) : Goes ((orc E).bare F args) Q := by
  obtain ⟨b, e, h⟩ := h
  exact ⟨b, bare_of hm e, h⟩
theorem Goes.callW {F : FuncId} {args : List AV} {R : AV × St → Prop} (h : Goes ((orc E).wide F args st) R) (h1 : E.isLook F = false) (h2 : (bares (args.map strip) && !E.full F) = false) {K : Kv β} (g : ∀ v s, R (v, s) → Goes (K v s ⟨[], .all st s⟩) Q) : Goes (callS (orc E) F args st K) Q := by
  obtain ⟨⟨v, s⟩, e, h⟩ := h
  exact Goes.step (callS_wide (E := E) K h1 h2 e) (g v s h)
theorem Goes.one {v : AV} (h : VM.one v = true) {e : Option β} (g : Goes e Q) : Goes (asOne v e) Q := Goes.step (asOne_of h e) g
/-- A loop that ends by what gets less. -/
theorem Goes.loop {σ : Type} {F : σ → Option (Sum σ β)} {I : Nat → σ → Prop} (h : ∀ n s, I n s → Goes (F s) fun r => match r with
    | .inl s' => ∃ m, m < n ∧ I m s'
    | .inr b => Q b) : ∀ n s, I n s → Goes (loopO F s) Q := by
  intro n
  induction n using Nat.strongRecOn with
  | _ n ih =>
    intro s hs
    obtain ⟨r, e, hr⟩ := h n s hs
    cases r with
    | inl s' =>
      obtain ⟨m, hm, hi⟩ := hr
      rw [loopO_inl e]
      exact ih m hm s' hi
    | inr b => exact ⟨b, loopO_inr e, hr⟩
/-! Variables of a function. -/
abbrev Vrs := List (Nat × TypeId × List AV)
structure Vw (st : St) (l : Vrs) : Prop where
  v : ∀ q ∈ l, st.get q.1 = .ok (.cells q.2.1 q.2.2) ∧ st.ro ≤ q.1
  nd : (l.map (·.1)).Nodup
  ro : st.ro ≤ st.h
variable {l l1 l2 : Vrs}
theorem Vw.start (h : st.ro ≤ st.h) : Vw st [] := ⟨(fun _ h => by cases h), List.nodup_nil, h⟩
theorem Vw.get (w : Vw st l) {a : Nat} {t : TypeId} {cs : List AV} (h : (a, t, cs) ∈ l) : st.get a = .ok (.cells t cs) := (w.v _ h).1
theorem Vw.sub {l' : Vrs} (w : Vw st l) (h : List.Sublist l' l) : Vw st l' := ⟨fun q hq => w.v q (h.subset hq), (h.map _).nodup w.nd, w.ro⟩
theorem Vw.alloc (w : Vw st l) (t : TypeId) (cs : List AV) : Vw (st.add (.cells t cs)) ((st.h, t, cs) :: l) := by
  refine ⟨fun q hq => ?_, ?_, Nat.le_succ_of_le w.ro⟩
  · rcases List.mem_cons.1 hq with rfl | hq
    · exact ⟨St.get_add_new, w.ro⟩
    · exact ⟨St.get_add_old (w.v q hq).1, (w.v q hq).2⟩
  · rw [List.map_cons, List.nodup_cons]
    refine ⟨fun hm => ?_, w.nd⟩
    obtain ⟨q, hq, e⟩ := List.mem_map.1 hm
    have h1 := (St.get_ok.1 (w.v q hq).1).1
    simp only at e
    omega
theorem Goes.eq {e : Option β} {b : β} (h : Goes e (· = b)) : e = .some b := by
  obtain ⟨c, e, rfl⟩ := h
  exact e
end
end Go.VM
