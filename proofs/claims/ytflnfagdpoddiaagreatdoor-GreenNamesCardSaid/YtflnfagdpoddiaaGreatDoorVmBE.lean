/-
  (A part of the proof: Utf, Utf2, Kit3, Kit4, Kit5, LexSpec, ParseSpec, ParseTot, LexLoc, LexLoc2, LexLoc3, LexPre, RelexSpec, ParseText, GreenSpec, ParseDep.)
-/
import Derived.Test.YtflnfagdpoddiaaGreatDoorVmBC
import Derived.Test.YtflnfagdpoddiaaGreatDoorVmAI
import Derived.Lib.TrimUEq
import Derived.Lib.ValidU
import Derived.Lib.AtoiAll
/- UTF-8 by its bytes: how many bytes a character has; what is valid; how many characters. -/
namespace Go.VM
open Go.Lib

/-- How many bytes the character has that begins with these; 0: there is none. -/
def szN (n b0 b1 b2 b3 : Nat) : Nat :=
  if b0 < 128 then 1
  else if 194 ≤ b0 ∧ b0 ≤ 223 then (if n < 2 ∨ b1 < 128 ∨ 191 < b1 then 0 else 2)
  else if 224 ≤ b0 ∧ b0 ≤ 239 then (if n < 3 ∨ b1 < 128 ∨ 191 < b1 ∨ b2 < 128 ∨ 191 < b2 ∨ (b0 = 224 ∧ b1 < 160) ∨ (b0 = 237 ∧ 159 < b1) then 0 else 3)
  else if 240 ≤ b0 ∧ b0 ≤ 244 then (if n < 4 ∨ b1 < 128 ∨ 191 < b1 ∨ b2 < 128 ∨ 191 < b2 ∨ b3 < 128 ∨ 191 < b3 ∨ (b0 = 240 ∧ b1 < 144) ∨ (b0 = 244 ∧ 143 < b1) then 0 else 4)
  else 0
set_option maxHeartbeats 2000000 in
theorem szN_decode {n b0 b1 b2 b3 : Nat} (h0 : b0 < 256) (h1 : b1 < 256) (h2 : b2 < 256) (h3 : b3 < 256) :
    (szN n b0 b1 b2 b3 = 0 ∧ decodeN n b0 b1 b2 b3 = (65533, 1)) ∨ (szN n b0 b1 b2 b3 = 1 ∧ b0 < 128 ∧ decodeN n b0 b1 b2 b3 = (b0, 1)) ∨ (2 ≤ szN n b0 b1 b2 b3 ∧ (decodeN n b0 b1 b2 b3).2 = szN n b0 b1 b2 b3) := by
  by_cases c0 : b0 < 128
  · refine .inr (.inl ⟨?_, c0, ?_⟩)
    · unfold szN; rw [if_pos c0]
    · unfold decodeN; rw [if_pos c0]
  by_cases z : szN n b0 b1 b2 b3 = 0
  · refine .inl ⟨z, ?_⟩
    unfold szN at z
    unfold decodeN
    repeat' split
    all_goals first | rfl | (exfalso; (repeat' (split at z)); all_goals omega)
  · have hc : (szN n b0 b1 b2 b3 = 2 ∧ (194 ≤ b0 ∧ b0 ≤ 223) ∧ ¬ (n < 2 ∨ b1 < 128 ∨ 191 < b1)) ∨
        (szN n b0 b1 b2 b3 = 3 ∧ (224 ≤ b0 ∧ b0 ≤ 239) ∧ ¬ (n < 3 ∨ b1 < 128 ∨ 191 < b1 ∨ b2 < 128 ∨ 191 < b2 ∨ (b0 = 224 ∧ b1 < 160) ∨ (b0 = 237 ∧ 159 < b1))) ∨
        (szN n b0 b1 b2 b3 = 4 ∧ (240 ≤ b0 ∧ b0 ≤ 244) ∧ ¬ (n < 4 ∨ b1 < 128 ∨ 191 < b1 ∨ b2 < 128 ∨ 191 < b2 ∨ b3 < 128 ∨ 191 < b3 ∨ (b0 = 240 ∧ b1 < 144) ∨ (b0 = 244 ∧ 143 < b1))) := by
      unfold szN at z ⊢
      rw [if_neg c0] at z ⊢
      by_cases c1 : 194 ≤ b0 ∧ b0 ≤ 223
      · rw [if_pos c1] at z ⊢
        by_cases d : n < 2 ∨ b1 < 128 ∨ 191 < b1
        · rw [if_pos d] at z; omega
        · rw [if_neg d]; exact .inl ⟨rfl, c1, d⟩
      rw [if_neg c1] at z ⊢
      by_cases c2 : 224 ≤ b0 ∧ b0 ≤ 239
      · rw [if_pos c2] at z ⊢
        by_cases d : n < 3 ∨ b1 < 128 ∨ 191 < b1 ∨ b2 < 128 ∨ 191 < b2 ∨ (b0 = 224 ∧ b1 < 160) ∨ (b0 = 237 ∧ 159 < b1)
        · rw [if_pos d] at z; omega
        · rw [if_neg d]; exact .inr (.inl ⟨rfl, c2, d⟩)
      rw [if_neg c2] at z ⊢
      by_cases c3 : 240 ≤ b0 ∧ b0 ≤ 244
      · rw [if_pos c3] at z ⊢
        by_cases d : n < 4 ∨ b1 < 128 ∨ 191 < b1 ∨ b2 < 128 ∨ 191 < b2 ∨ b3 < 128 ∨ 191 < b3 ∨ (b0 = 240 ∧ b1 < 144) ∨ (b0 = 244 ∧ 143 < b1)
        · rw [if_pos d] at z; omega
        · rw [if_neg d]; exact .inr (.inr ⟨rfl, c3, d⟩)
      · rw [if_neg c3] at z; omega
    refine .inr (.inr ?_)
    rcases hc with ⟨e, c, d⟩ | ⟨e, c, d⟩ | ⟨e, c, d⟩
    all_goals
      rw [e]
      refine ⟨by omega, ?_⟩
      unfold decodeN
      repeat' split
      all_goals first | rfl | (exfalso; omega)
theorem szN_le {n b0 b1 b2 b3 : Nat} (h : 1 ≤ n) : szN n b0 b1 b2 b3 ≤ n := by
  unfold szN
  repeat' split
  all_goals omega
def szL (l : List UInt8) : Nat := szN l.length (l.getD 0 0).toNat (l.getD 1 0).toNat (l.getD 2 0).toNat (l.getD 3 0).toNat
theorem szL_decode (l : List UInt8) : (szL l = 0 ∧ decodeL l = (65533, 1)) ∨ (szL l = 1 ∧ (l.getD 0 0).toNat < 128 ∧ decodeL l = ((l.getD 0 0).toNat, 1)) ∨ (2 ≤ szL l ∧ (decodeL l).2 = szL l) := by
  unfold szL
  rw [decodeL_N]
  exact szN_decode (UInt8.toNat_lt _) (UInt8.toNat_lt _) (UInt8.toNat_lt _) (UInt8.toNat_lt _)
theorem szL_le {l : List UInt8} (h : l ≠ []) : szL l ≤ l.length := szN_le (List.length_pos_iff.2 h)
/-- Valid: character by character (so many of them at most). -/
def validF : Nat → List UInt8 → Bool
  | 0, _ => true
  | n + 1, l => if l = [] then true else if szL l = 0 then false else validF n (l.drop (szL l))
theorem validF_eq : ∀ (n : Nat) (l : List UInt8), validGoD n l = validF n l
  | 0, _ => rfl
  | n + 1, l => by
    unfold validGoD validF
    by_cases h : l = []
    · rw [if_pos h, if_pos h]
    rw [if_neg h, if_neg h]
    rcases szL_decode l with ⟨h1, h2⟩ | ⟨h1, h2, h3⟩ | ⟨h1, h2⟩
    · have hd : (decodeL l).1 = 65533 ∧ (decodeL l).2 = 1 := by rw [h2]; exact ⟨rfl, rfl⟩
      rw [if_pos hd, if_pos h1]
    · have hd : ¬ ((decodeL l).1 = 65533 ∧ (decodeL l).2 = 1) := by rw [h3]; show ¬ ((l.getD 0 0).toNat = 65533 ∧ _); omega
      have hz : ¬ szL l = 0 := by omega
      rw [if_neg hd, if_neg hz, h3, h1]; exact validF_eq n _
    · have hd : ¬ ((decodeL l).1 = 65533 ∧ (decodeL l).2 = 1) := by omega
      have hz : ¬ szL l = 0 := by omega
      rw [if_neg hd, if_neg hz, h2]; exact validF_eq n _
def validS (l : List UInt8) : Bool := validF l.length l
theorem validS_eq (l : List UInt8) : validD l = validS l := validF_eq _ _
theorem validF_fuel : ∀ (n m : Nat) (l : List UInt8), l.length ≤ n → l.length ≤ m → validF n l = validF m l
  | 0, 0, _, _, _ => rfl
  | 0, m + 1, l, h, _ => by
    have : l = [] := List.eq_nil_of_length_eq_zero (by omega)
    subst this
    simp [validF]
  | n + 1, 0, l, _, h => by
    have : l = [] := List.eq_nil_of_length_eq_zero (by omega)
    subst this
    simp [validF]
  | n + 1, m + 1, l, hn, hm => by
    unfold validF
    by_cases h : l = []
    · rw [if_pos h, if_pos h]
    rw [if_neg h, if_neg h]
    by_cases hz : szL l = 0
    · rw [if_pos hz, if_pos hz]
    · rw [if_neg hz, if_neg hz, validF_fuel n m _ (by rw [List.length_drop]; omega) (by rw [List.length_drop]; omega)]
theorem validS_step {l : List UInt8} (h : l ≠ []) : validS l = if szL l = 0 then false else validS (l.drop (szL l)) := by
  unfold validS
  have hl : 0 < l.length := List.length_pos_iff.2 h
  obtain ⟨n, hn⟩ : ∃ n, l.length = n + 1 := ⟨l.length - 1, by omega⟩
  rw [hn]
  show (if l = [] then true else _) = _
  rw [if_neg h]
  by_cases hz : szL l = 0
  · rw [if_pos hz, if_pos hz]
  · rw [if_neg hz, if_neg hz]
    exact validF_fuel _ _ _ (by rw [List.length_drop]; omega) (Nat.le_refl _)
end Go.VM
/- UTF-8: how many characters, by the library's count. -/
namespace Go.VM
open Go.Lib

section
variable {β : Type} {O : Orc}
theorem planS_lib {f : List AV → Res AV} {args : List AV} {v : AV} (h : f args = .ok v) (st : St) (K : Kv β) : planS O (primP (.lib f) args) st K = K v st q0 := by
  simp only [planS, outS, primP, h, planO, bindO_ok]
theorem libValid_ok {s : List UInt8} (h : s.length ≤ 9223372036854775807) : libValid [.str s] = .ok (.bool (validS s)) := by
  simp only [libValid, Nat.ble_eq_true_of_le h, validS_eq]
end
end Go.VM
/- Small facts that walks of shallow forms want; slices that own their ends, side by side; bytes of a text. -/
namespace Go.VM
open Go

@[simp] theorem oneOf_one (v : AV) : oneOf [v] = v := id rfl
@[simp] theorem notNil_ip (cs : List AV) : notNil (.ip cs) = true := id rfl
@[simp] theorem notNil_mp (i o : Nat) : notNil (.mp i o) = true := id rfl
@[simp] theorem drop1 (a : AV) (l : List AV) : (a :: l).drop 1 = l := id rfl
@[simp] theorem drop2 (a b : AV) (l : List AV) : (a :: b :: l).drop 2 = l := id rfl
@[simp] theorem drop3 (a b c : AV) (l : List AV) : (a :: b :: c :: l).drop 3 = l := id rfl
@[simp] theorem drop4 (a b c d : AV) (l : List AV) : (a :: b :: c :: d :: l).drop 4 = l := id rfl
@[simp] theorem drop5 (a b c d e : AV) (l : List AV) : (a :: b :: c :: d :: e :: l).drop 5 = l := id rfl
@[simp] theorem takeO1 (a : AV) (l : List AV) : takeO 1 true (a :: l) = some (.agg [a]) := id rfl
@[simp] theorem takeO2 (a b : AV) (l : List AV) : takeO 2 true (a :: b :: l) = some (.agg [a, b]) := id rfl
@[simp] theorem takeO3 (a b c : AV) (l : List AV) : takeO 3 true (a :: b :: c :: l) = some (.agg [a, b, c]) := id rfl
@[simp] theorem takeO4 (a b c d : AV) (l : List AV) : takeO 4 true (a :: b :: c :: d :: l) = some (.agg [a, b, c, d]) := id rfl
@[simp] theorem cells_agg (cs : List AV) : AV.cells (.agg cs) = cs := id rfl
@[simp] theorem cells_str (s : List UInt8) : AV.cells (.str s) = [.str s] := id rfl
@[simp] theorem cells_int (k : IntKind) (n : Int) : AV.cells (.int k n) = [.int k n] := id rfl
@[simp] theorem cells_fn (f : Fn) (a b : List AV) : AV.cells (.fn f a b) = [.fn f a b] := id rfl
@[simp] theorem apart_made1 (i : Nat) (o : VM.Obj) : apart q0 ⟨[], .made i o⟩ = true := id rfl
@[simp] theorem apart_made2 (i : Nat) (o : VM.Obj) : apart ⟨[], .kept⟩ ⟨[], .made i o⟩ = true := id rfl
@[simp] theorem apart_wrote1 (i : Nat) (o : VM.Obj) : apart ⟨[], .kept⟩ ⟨[i], .wrote i o⟩ = true := id rfl
theorem wrapN {n : Nat} (h : n ≤ 9223372036854775807) : IntKind.wrap .i64 (n : Int) = (n : Int) := wrap_i64 (by omega) (by omega)
theorem wrapA {n m : Nat} (h : n + m ≤ 9223372036854775807) : IntKind.wrap .i64 ((n : Int) + (m : Int)) = ((n + m : Nat) : Int) := by rw [← Int.natCast_add]; exact wrapN h
theorem wrapA1 {n : Nat} (h : n + 1 ≤ 9223372036854775807) : IntKind.wrap .i64 ((n : Int) + 1) = ((n + 1 : Nat) : Int) := wrapA (m := 1) h
theorem wrapA2 {n : Nat} (h : n + 2 ≤ 9223372036854775807) : IntKind.wrap .i64 ((n : Int) + 2) = ((n + 2 : Nat) : Int) := wrapA (m := 2) h
theorem wrapS {n m : Nat} (h : m ≤ n) (hn : n ≤ 9223372036854775807) : IntKind.wrap .i64 ((n : Int) - (m : Int)) = ((n - m : Nat) : Int) := by rw [← wrapN (n := n - m) (by omega)]; congr 1; omega
theorem ble_of {a b : Nat} (h : a ≤ b) : Nat.ble a b = true := Nat.ble_eq_true_of_le h
/-! Slices that own their ends. -/
theorem own_keep {st st' : St} {z : Nat} {e : TypeId} {v : AV} {es : List AV} {but : Nat → Prop} (h : Own st z e v es) (k : Keeps st st' but) (hb : ∀ j, ownerOf v j → ¬ but j) : Own st' z e v es := by
  refine ⟨by rw [k.ro]; exact Nat.le_trans h.1 k.h, h.2.1, ?_⟩
  rcases h.2.2 with h | h | ⟨j, hv, hg, hr⟩
  · exact .inl h
  · exact .inr (.inl h)
  · exact .inr (.inr ⟨j, hv, k.old _ _ (hb j ⟨_, _, hv⟩) hg, by rw [k.ro]; exact hr⟩)
theorem own_app {st : St} {z b : Nat} {e : TypeId} {v : AV} {es : List AV} (w : AV) (h : Own st z e v es) (hr : roomOk (es.length + 1) ⟨.other, z, b, [], false, false⟩ = true) :
    ∃ v' st', Own st' z e v' (es ++ [w]) ∧ Keeps st st' (ownerOf v) ∧ ∃ x, ∀ {β : Type} (K : Kv β), appS z b e v [w] st K = K v' st' x := by
  obtain ⟨v', st', x, e1, e2, e3, _⟩ := app_own (b := b) (new := [w]) h (by simp) hr
  exact ⟨v', st', e2, e3, x, fun K => appS_of e1 K⟩
theorem room_of {n z b : Nat} (hn : n ≤ 1000000000) (hb : b ≤ 1000) (hz : 1 ≤ z) : roomOk n ⟨.other, z, b, [], false, false⟩ = true := by
  have : n * b ≤ 1000000000 * 1000 := Nat.mul_le_mul hn hb
  simp only [roomOk, ble_of (show n * b ≤ 70368744177664 by omega), ble_of (show n ≤ 70368744177664 by omega), ble_of hz]; rfl
/-- Such a slice frozen among others. -/
theorem own_freeze {st : St} {z : Nat} {e : TypeId} {v : AV} {es : List AV} (h : Own st z e v es) : ∃ x, IsSl z x es ∧ ∀ n, freeze st 0 (n + 1) v = .ok x := by
  rcases h with ⟨_, hl, ⟨rfl | rfl, rfl⟩ | rfl | ⟨k, rfl, _, _⟩⟩
  · exact ⟨.nils, IsSl.nils, fun _ => rfl⟩
  · exact ⟨.es, IsSl.emp, fun _ => rfl⟩
  · exact ⟨.sl z es .shut, IsSl.shut hl, fun _ => rfl⟩
  · exact ⟨.sl z es .wide, IsSl.wide hl, fun _ => rfl⟩
/-- A pair of such a slice and what freezing leaves. -/
theorem frz_own2 {st : St} {z : Nat} {e : TypeId} {v u : AV} {es : List AV} (h : Own st z e v es) (hu : Fz 1 u) (hb : bare u = true) : ∃ x, IsSl z x es ∧ ∀ {β : Type} (K : AV → Option β), frzS st 0 (.tup [v, u]) K = K (.tup [x, u]) := by
  obtain ⟨x, hx, e1⟩ := own_freeze h
  refine ⟨x, hx, fun K => ?_⟩
  have e2 : freeze st 0 100 (.tup [v, u]) = .ok (.tup [x, u]) := by
    show (do pure (.tup (← allE (freeze st 0 99) [v, u])) : Res AV) = _
    have e3 : allE (freeze st 0 99) [v, u] = .ok [x, u] := by
      simp only [allE, e1 98, hu st 0 99 (by omega), ok_bind, pure_eq]
    rw [e3]; rfl
  have e3 : bare (.tup [x, u]) = true := by
    show (bare x && (bare u && true)) = true
    rw [hx.bare, hb]; rfl
  simp only [frzS, e2, e3, chk_true]
theorem byte_ne {c d : UInt8} (h : c ≠ d) : ¬ ((c.toNat : Nat) : Int) = (d.toNat : Int) := by
  intro k
  have : c.toNat = d.toNat := by omega
  exact h (UInt8.toNat_inj.1 this)
theorem getElem_of {s : List UInt8} {i : Nat} {c : UInt8} (hlt : i < s.length) (hg : s[i]? = some c) : s[i] = c := by
  have := List.getElem?_eq_getElem hlt
  rw [hg] at this; exact (Option.some.inj this).symm
end Go.VM
/- Appends of many elements; tuples of what freezing leaves; arrays that may be written. -/
namespace Go.VM
open Go

/-! Arrays that may be written: a slice over all of an object's cells. -/
/-- Elements that are written cell by cell. -/
structure Els (z : Nat) (agg : Bool) (es : List AV) : Prop where
  one : ∀ v ∈ es, ones v.cells = true
  size : ∀ v ∈ es, v.cells.length = z
  fit : ∀ v ∈ es, ∀ c ∈ v.cells, Fz 1 c
  fits : ∀ v ∈ es, VM.fit v = .ok v
  shape : ∀ v ∈ es, agg = true → ∃ cs, v = .agg cs
  notagg : ∀ v ∈ es, agg = false → VM.one v = true
theorem Els.set {z : Nat} {agg : Bool} {es : List AV} (he : Els z agg es) {k : Nat} {w : AV} (hw : Els z agg [w]) : Els z agg (es.set k w) := by
  have key : ∀ v ∈ es.set k w, v ∈ es ∨ v = w := fun v hv => List.mem_or_eq_of_mem_set hv
  have hm : w ∈ [w] := by simp
  exact ⟨fun v hv => (key v hv).elim (he.one v) (fun e => e ▸ hw.one w hm), fun v hv => (key v hv).elim (he.size v) (fun e => e ▸ hw.size w hm),
    fun v hv => (key v hv).elim (he.fit v) (fun e => e ▸ hw.fit w hm), fun v hv => (key v hv).elim (he.fits v) (fun e => e ▸ hw.fits w hm),
    fun v hv => (key v hv).elim (he.shape v) (fun e => e ▸ hw.shape w hm), fun v hv => (key v hv).elim (he.notagg v) (fun e => e ▸ hw.notagg w hm)⟩
/-- A variable that is there, written whole. -/
theorem var_put {O : Orc} {st : St} {id : Nat} {t : TypeId} {z : Nat} {old cs : List AV} (v : AV) (hg : st.get id = .ok (.cells t old)) (hl : old.length = z) (hc : cs.length = z) (hro : st.ro ≤ id) :
    ∃ st', st'.get id = .ok (.cells t cs) ∧ Keeps st st' (· = id) ∧ st'.h = st.h ∧ ∃ fx, ∀ {β : Type} (K : Kv β), storeS O z (.mp id 0) v cs st K = K undef st' fx := by
  refine ⟨st.put id (.cells t cs), St.get_put_same (St.get_ok.1 hg).1, Keeps.put rfl, rfl, ⟨[id], .wrote id (.cells t (splice old 0 cs))⟩, fun K => ?_⟩
  rw [storeS_at hg hc (by omega) hro, splice_all (by omega)]
/-! What reads the same before and after a call. -/
def Rf (d : Nat) (v : AV) : Prop := ∀ f, d ≤ f → sameAV f v v = true
theorem Rf.mono {d e : Nat} {v : AV} (h : Rf d v) (hd : d ≤ e) : Rf e v := fun f hf => h f (Nat.le_trans hd hf)
theorem Keeps.of_ne {st st' : St} {p : Nat} (k : Keeps st st' (· = p)) {j : Nat} {o : Obj} (hj : j ≠ p) (h : st.get j = .ok o) : st'.get j = .ok o := k.old j o hj h
/-- What is new in between may be written. -/
theorem Keeps.fresh {a b c : St} {p : Nat → Prop} {i : Nat} (h : Keeps a b p) (k : Keeps b c (· = i)) (hi : a.h ≤ i) : Keeps a c p :=
  ⟨k.ro.trans h.ro, Nat.le_trans h.h k.h, fun j o hj hg => k.old j o (fun e => by
    have := (St.get_ok.1 hg).1
    omega) (h.old j o hj hg)⟩
end Go.VM
/- What is left to do ends well: steps from the front. -/
namespace Go.VM
open Go

/-- It comes to something of which this is true. -/
def Goes {β : Type} (e : Option β) (Q : β → Prop) : Prop := ∃ b, e = some b ∧ Q b
section
variable {β : Type} {Q : β → Prop} {E : Env} {st : St}
theorem Goes.step {e e' : Option β} (h : e = e') (g : Goes e' Q) : Goes e Q := h ▸ g
theorem Goes.some {b : β} (h : Q b) : Goes (.some b) Q := ⟨b, rfl, h⟩
theorem Goes.mono {e : Option β} {Q' : β → Prop} (h : Goes e Q) (k : ∀ b, Q b → Q' b) : Goes e Q' := by
  obtain ⟨b, e, h⟩ := h
  exact ⟨b, e, k b h⟩
theorem Goes.bind {α : Type} {e : Option α} {R : α → Prop} {K : α → Option β} (h : Goes e R) (g : ∀ a, R a → Goes (K a) Q) : Goes (bindO e K) Q := by
  obtain ⟨a, e, h⟩ := h
  rw [e]
  exact g a h
theorem Goes.wide {F : FuncId} {args : List AV} {Q : AV × St → Prop} (h : Goes (wideS E F args st) Q) : Goes ((orc E).wide F args st) Q := by
  obtain ⟨b, e, h⟩ := h
  exact ⟨b, wide_of e, h⟩
theorem Goes.bare {F : FuncId} {args : List AV} {Q : AV → Prop} (hm : (E.memo F, (E.rule F).isSome) = ([], false)) (h : Goes (bareS E F args) Q) : Goes ((orc E).bare F args) Q := by
  obtain ⟨b, e, h⟩ := h
  exact ⟨b, bare_of hm e, h⟩
theorem Goes.one {v : AV} (h : VM.one v = true) {e : Option β} (g : Goes e Q) : Goes (asOne v e) Q := Goes.step (asOne_of h e) g
/-- A loop that ends by what gets less. -/
theorem Goes.loop {σ : Type} {F : σ → Option (Sum σ β)} {I : Nat → σ → Prop} (h : ∀ n s, I n s → Goes (F s) fun r => match r with
    | .inl s' => ∃ m, m < n ∧ I m s'
    | .inr b => Q b) : ∀ n s, I n s → Goes (loopO F s) Q := by
  intro n
  induction n using Nat.strongRecOn with
  | _ n ih =>
    intro s hs
    obtain ⟨r, e, hr⟩ := h n s hs
    cases r with
    | inl s' =>
      obtain ⟨m, hm, hi⟩ := hr
      rw [loopO_inl e]
      exact ih m hm s' hi
    | inr b => exact ⟨b, loopO_inr e, hr⟩
/-! Variables of a function. -/
abbrev Vrs := List (Nat × TypeId × List AV)
structure Vw (st : St) (l : Vrs) : Prop where
  v : ∀ q ∈ l, st.get q.1 = .ok (.cells q.2.1 q.2.2) ∧ st.ro ≤ q.1
  nd : (l.map (·.1)).Nodup
  ro : st.ro ≤ st.h
variable {l l1 l2 : Vrs}
theorem Vw.get (w : Vw st l) {a : Nat} {t : TypeId} {cs : List AV} (h : (a, t, cs) ∈ l) : st.get a = .ok (.cells t cs) := (w.v _ h).1
theorem Vw.sub {l' : Vrs} (w : Vw st l) (h : List.Sublist l' l) : Vw st l' := ⟨fun q hq => w.v q (h.subset hq), (h.map _).nodup w.nd, w.ro⟩
theorem Vw.alloc (w : Vw st l) (t : TypeId) (cs : List AV) : Vw (st.add (.cells t cs)) ((st.h, t, cs) :: l) := by
  refine ⟨fun q hq => ?_, ?_, Nat.le_succ_of_le w.ro⟩
  · rcases List.mem_cons.1 hq with rfl | hq
    · exact ⟨St.get_add_new, w.ro⟩
    · exact ⟨St.get_add_old (w.v q hq).1, (w.v q hq).2⟩
  · rw [List.map_cons, List.nodup_cons]
    refine ⟨fun hm => ?_, w.nd⟩
    obtain ⟨q, hq, e⟩ := List.mem_map.1 hm
    have h1 := (St.get_ok.1 (w.v q hq).1).1
    simp only at e
    omega
theorem Goes.eq {e : Option β} {b : β} (h : Goes e (· = b)) : e = .some b := by
  obtain ⟨c, e, rfl⟩ := h
  exact e
end
end Go.VM
/- Tokens of a text, as plain functions. -/
namespace Go.Lex
open Go.VM

def wh (p : UInt8 → Bool) (s : List UInt8) : Nat := (s.takeWhile p).length
def isBlank (b : UInt8) : Bool := b == 32 || b == 9 || b == 10 || b == 13
def isLow (b : UInt8) : Bool := (decide (97 ≤ b.toNat) && decide (b.toNat ≤ 122)) || b == 95
def isDig (b : UInt8) : Bool := decide (48 ≤ b.toNat) && decide (b.toNat ≤ 57)
def isBeh (b : UInt8) : Bool := isLow b || isDig b || (decide (65 ≤ b.toNat) && decide (b.toNat ≤ 90)) || b == 39
/-- Where a remark ends, so many being open. -/
def rem : List UInt8 → Nat → Option Nat
  | [], _ => none
  | [_], _ => none
  | a :: b :: l, d =>
    if a = 40 ∧ b = 42 then (rem l (d + 1)).map (· + 2)
    else if a = 42 ∧ b = 41 then (if d = 1 then some 2 else (rem l (d - 1)).map (· + 2))
    else (rem (b :: l) d).map (· + 1)
def words : List (List UInt8) := [[108, 101, 116], [114, 101, 99], [105, 110], [102, 117, 110], [105, 102], [116, 104, 101, 110], [101, 108, 115, 101], [109, 97, 116, 99, 104], [119, 105, 116, 104], [116, 114, 117, 101], [102, 97, 108, 115, 101], [109, 111, 100]]
def nameK (w : List UInt8) : Nat := if w = [95] then 8 else if words.contains w then 3 else 4
def stepV (a : Nat) (c : UInt8) : Nat := a * 10 + (c.toNat - 48)
def numV (acc : Nat) (l : List UInt8) : Nat := l.foldl stepV acc
theorem numV_nil (a : Nat) : numV a [] = a := id rfl
theorem numV_cons (a : Nat) (c : UInt8) (l : List UInt8) : numV a (c :: l) = numV (stepV a c) l := id rfl
def isSgn (c : UInt8) : Bool := c == 43 || c == 45
def sgn : List UInt8 → Nat
  | c :: _ => if isSgn c then 1 else 0
  | [] => 0
/-- An exponent behind a Float's digits: how many bytes, and its value. -/
def expo (s : List UInt8) : Nat × Int :=
  match s with
  | [] => (0, 0)
  | e :: l =>
    if e = 101 ∨ e = 69 then
      let d := wh isDig (l.drop (sgn l))
      if d = 0 then (0, 0)
      else
        let x : Int := ((min (numV 0 ((l.drop (sgn l)).take d)) 1000000 : Nat) : Int)
        (1 + sgn l + d, if l.head? = some 45 then -x else x)
    else (0, 0)
/-- A number: its kind and how many bytes. -/
def number (s : List UInt8) : Nat × Nat :=
  let n := wh isDig s
  if (s.drop n).head? = some 46 then
    let k := wh isDig (s.drop (n + 1))
    let x := expo (s.drop (n + 1 + k))
    (if n + k > 15 ∨ x.2 - (k : Int) < -22 ∨ x.2 - (k : Int) > 22 then 9 else 6, n + 1 + k + x.1)
  else (5, n)
/-- What is left of a Bad text: up to its quote, or its line's end. -/
def badT : List UInt8 → Nat
  | [] => 0
  | c :: l => if c = 10 then 0 else if c = 34 then 1 else badT l + 1
def isEsc (c : UInt8) : Bool := c == 110 || c == 116 || c == 92 || c == 34
/-- A text behind its quote: its kind and how many bytes. -/
def txt : List UInt8 → Nat × Nat
  | [] => (9, 0)
  | [c] => if c = 10 then (9, 0) else if c = 34 then (7, 1) else (9, 1)
  | c :: d :: l =>
    if c = 10 then (9, 0) else if c = 34 then (7, 1)
    else if c = 92 then (if isEsc d then ((txt l).1, (txt l).2 + 2) else (9, badT (d :: l) + 1))
    else ((txt (d :: l)).1, (txt (d :: l)).2 + 1)
def twos : List (List UInt8) := [[45, 62], [58, 58], [60, 62], [60, 61], [62, 61], [43, 46], [45, 46], [42, 46], [47, 46], [38, 38], [124, 124]]
def ones1 : List UInt8 := [40, 41, 91, 93, 44, 59, 124, 61, 60, 62, 43, 45, 42, 47, 94, 64]
def isOne (c : UInt8) : Bool := ones1.contains c
/-- The token that a text begins with: its kind, and how many bytes. -/
def cut (s : List UInt8) : Nat × Nat :=
  match s with
  | [] => (9, 0)
  | c :: l =>
    if isBlank c then (1, wh isBlank s)
    else if s.take 2 = [40, 42] then (match rem (s.drop 2) 1 with | some n => (2, n + 2) | none => (9, s.length))
    else if isLow c then (nameK (s.takeWhile isBeh), wh isBeh s)
    else if isDig c then number s
    else if c = 34 then ((txt l).1, (txt l).2 + 1)
    else if twos.contains (s.take 2) then (8, 2)
    else if isOne c then (8, 1)
    else (9, if szL s = 0 then 1 else szL s)
/-- A text's tokens. -/
def toks : Nat → List UInt8 → List (Nat × List UInt8)
  | 0, _ => []
  | n + 1, s => match s with
    | [] => []
    | _ :: _ => ((cut s).1, s.take (cut s).2) :: toks n (s.drop (cut s).2)
def tokens (s : List UInt8) : List (Nat × List UInt8) := toks s.length s

theorem wh_le (p : UInt8 → Bool) (s : List UInt8) : wh p s ≤ s.length := (List.takeWhile_sublist p).length_le
theorem wh_take (p : UInt8 → Bool) (s : List UInt8) : s.take (wh p s) = s.takeWhile p := by
  unfold wh
  induction s with
  | nil => rfl
  | cons c l ih =>
    rw [List.takeWhile_cons]
    split
    · simp [ih]
    · simp
theorem wh_drop (p : UInt8 → Bool) (s : List UInt8) : s.drop (wh p s) = s.dropWhile p := by
  unfold wh
  induction s with
  | nil => rfl
  | cons c l ih =>
    rw [List.takeWhile_cons, List.dropWhile_cons]
    split
    · simp [ih]
    · simp
theorem wh_len (p : UInt8 → Bool) (s : List UInt8) : s.length = wh p s + (s.dropWhile p).length := by
  rw [← wh_drop, List.length_drop]
  have := wh_le p s
  omega
theorem wh_cons (p : UInt8 → Bool) (c : UInt8) (l : List UInt8) : wh p (c :: l) = if p c = true then wh p l + 1 else 0 := by
  unfold wh
  rw [List.takeWhile_cons]
  split <;> simp
theorem rem_le : ∀ (s : List UInt8) (d n : Nat), rem s d = some n → 2 ≤ n ∧ n ≤ s.length
  | [], _, _, h => by simp [rem] at h
  | [_], _, _, h => by simp [rem] at h
  | a :: b :: l, d, n, h => by
    simp only [rem] at h
    split at h
    · obtain ⟨m, hm, rfl⟩ := Option.map_eq_some_iff.1 h
      have := rem_le l (d + 1) m hm
      simp; omega
    · split at h
      · split at h
        · cases h; simp
        · obtain ⟨m, hm, rfl⟩ := Option.map_eq_some_iff.1 h
          have := rem_le l (d - 1) m hm
          simp; omega
      · obtain ⟨m, hm, rfl⟩ := Option.map_eq_some_iff.1 h
        have := rem_le (b :: l) d m hm
        simp at this ⊢; omega
theorem badT_le : ∀ (s : List UInt8), badT s ≤ s.length
  | [] => Nat.le_refl _
  | c :: l => by
    have := badT_le l
    simp only [badT]
    split
    · omega
    · split
      · simp
      · simp; exact this
theorem txt_le : ∀ (s : List UInt8), (txt s).2 ≤ s.length
  | [] => Nat.le_refl _
  | [c] => by
    simp only [txt]
    split
    · simp
    · split <;> simp
  | c :: d :: l => by
    have h1 := txt_le l
    have h2 := txt_le (d :: l)
    have h3 := badT_le (d :: l)
    simp only [txt, List.length_cons] at *
    split
    · simp
    · split
      · simp
      · split
        · split
          · simp; omega
          · simp; omega
        · simp; omega
theorem sgn_le (l : List UInt8) : sgn l ≤ l.length := by
  cases l with
  | nil => exact Nat.le_refl _
  | cons c l => simp only [sgn]; split <;> simp
theorem expo_le (s : List UInt8) : (expo s).1 ≤ s.length := by
  unfold expo
  cases s with
  | nil => simp
  | cons e l =>
    dsimp only
    split
    · have hg := sgn_le l
      have hd := wh_le isDig (l.drop (sgn l))
      rw [List.length_drop] at hd
      split
      · simp
      · simp only [List.length_cons]; omega
    · simp
theorem number_le (s : List UInt8) (h : 1 ≤ wh isDig s) : 1 ≤ (number s).2 ∧ (number s).2 ≤ s.length := by
  unfold number
  have h1 := wh_le isDig s
  dsimp only
  split
  · rename_i hd
    have hlt : wh isDig s < s.length := by
      rcases Nat.lt_or_ge (wh isDig s) s.length with q | q
      · exact q
      · rw [List.drop_of_length_le q] at hd; cases hd
    have h2 := wh_le isDig (s.drop (wh isDig s + 1))
    rw [List.length_drop] at h2
    have h3 := expo_le (s.drop (wh isDig s + 1 + wh isDig (s.drop (wh isDig s + 1))))
    rw [List.length_drop] at h3
    dsimp only
    omega
  · exact ⟨h, h1⟩
theorem cut_le {s : List UInt8} (h : s ≠ []) : 1 ≤ (cut s).2 ∧ (cut s).2 ≤ s.length := by
  cases s with
  | nil => exact absurd rfl h
  | cons c l =>
    unfold cut
    dsimp only
    split
    · rename_i hb
      exact ⟨by rw [wh_cons, if_pos hb]; omega, wh_le _ _⟩
    split
    · rename_i h2
      have hl : 2 ≤ (c :: l).length := by
        have := congrArg List.length h2
        rw [List.length_take] at this
        simp at this
        simp; omega
      cases hr : rem (List.drop 2 (c :: l)) 1 with
      | some n =>
        have := rem_le _ _ _ hr
        rw [List.length_drop] at this
        dsimp only; omega
      | none => dsimp only; omega
    split
    · rename_i hb
      have hb' : isBeh c = true := by unfold isBeh; rw [hb]; rfl
      exact ⟨by rw [wh_cons, if_pos hb']; omega, wh_le _ _⟩
    split
    · rename_i hb
      exact number_le _ (by rw [wh_cons, if_pos hb]; omega)
    split
    · have := txt_le l
      simp; omega
    split
    · rename_i h2
      have hl : 2 ≤ (c :: l).length := by
        rcases Nat.lt_or_ge (c :: l).length 2 with q | q
        · exfalso
          have : l = [] := by
            cases l with
            | nil => rfl
            | cons d l => simp at q; omega
          subst this
          simp [twos] at h2
        · exact q
      dsimp only; omega
    split
    · simp
    · have := szL_le (l := c :: l) (by simp)
      dsimp only
      split
      · simp
      · omega
theorem toks_fuel : ∀ (n m : Nat) (s : List UInt8), s.length ≤ n → s.length ≤ m → toks n s = toks m s
  | 0, 0, _, _, _ => rfl
  | 0, m + 1, s, h, _ => by
    have : s = [] := List.eq_nil_of_length_eq_zero (by omega)
    subst this; rfl
  | n + 1, 0, s, _, h => by
    have : s = [] := List.eq_nil_of_length_eq_zero (by omega)
    subst this; rfl
  | n + 1, m + 1, [], _, _ => rfl
  | n + 1, m + 1, c :: l, hn, hm => by
    have hc := cut_le (s := c :: l) (by simp)
    simp only [toks]
    rw [toks_fuel n m ((c :: l).drop (cut (c :: l)).2) (by rw [List.length_drop]; omega) (by rw [List.length_drop]; omega)]
theorem tokens_cons {s : List UInt8} (h : s ≠ []) : tokens s = ((cut s).1, s.take (cut s).2) :: tokens (s.drop (cut s).2) := by
  cases s with
  | nil => exact absurd rfl h
  | cons c l =>
    have hc := cut_le (s := c :: l) (by simp)
    show toks (l.length + 1) (c :: l) = _
    simp only [toks]
    congr 1
    exact toks_fuel _ _ _ (by rw [List.length_drop]; simp at hc ⊢; omega) (Nat.le_refl _)
theorem tokens_nil : tokens [] = [] := rfl
end Go.Lex
/- Trees of tokens, as plain functions. -/
namespace Go.Parse
open Go.VM Go.Lex

abbrev Tok := Nat × List UInt8
inductive T where
  | mk (k tk : Nat) (tx : List UInt8) (kids : List T)
  deriving Inhabited
def T.kids : T → List T | .mk _ _ _ l => l
def T.kind : T → Nat | .mk k _ _ _ => k

def trivB (t : Tok) : Bool := t.1 == 1 || t.1 == 2
def nx (r : List Tok) : Tok :=
  match r.dropWhile trivB with
  | [] => (0, [])
  | t :: _ => t
def leaf (t : Tok) (ks : List T) : T := .mk 1 t.1 t.2 ks
def leaf0 (t : Tok) : T := leaf t []
/-- The leaf of the token that is next, and what stands behind it. -/
def takeT (r : List Tok) : T := leaf (nx r) ((r.takeWhile trivB).map leaf0)
def takeR (r : List Tok) : List Tok := (r.dropWhile trivB).drop 1
def isS (s : List UInt8) (r : List Tok) : Bool := ((nx r).1 == 3 || (nx r).1 == 8) && (nx r).2 == s
def isAny (l : List (List UInt8)) (r : List Tok) : Bool := ((nx r).1 == 3 || (nx r).1 == 8) && l.any fun s => s == (nx r).2
def missing (s : List UInt8) : T := .mk 2 0 s []
def needT (s : List UInt8) (r : List Tok) : T := if isS s r then takeT r else missing s
def needR (s : List UInt8) (r : List Tok) : List Tok := if isS s r then takeR r else r
abbrev node (k : Nat) (l : List T) : T := .mk k 0 [] l

def sLet : List UInt8 := [108, 101, 116]
def sRec : List UInt8 := [114, 101, 99]
def sIn : List UInt8 := [105, 110]
def sFun : List UInt8 := [102, 117, 110]
def sIf : List UInt8 := [105, 102]
def sThen : List UInt8 := [116, 104, 101, 110]
def sElse : List UInt8 := [101, 108, 115, 101]
def sMatch : List UInt8 := [109, 97, 116, 99, 104]
def sWith : List UInt8 := [119, 105, 116, 104]
def sTrue : List UInt8 := [116, 114, 117, 101]
def sFalse : List UInt8 := [102, 97, 108, 115, 101]
def sExpr : List UInt8 := [101, 120, 112, 114]
def sPattern : List UInt8 := [112, 97, 116, 116, 101, 114, 110]
def sEq : List UInt8 := [61]
def sArrow : List UInt8 := [45, 62]
def sBar : List UInt8 := [124]
def sCons : List UInt8 := [58, 58]
def sOpen : List UInt8 := [40]
def sClose : List UInt8 := [41]
def sOpenL : List UInt8 := [91]
def sCloseL : List UInt8 := [93]
def sComma : List UInt8 := [44]
def sSemi : List UInt8 := [59]
def sAny : List UInt8 := [95]
def opsOf : Nat → List (List UInt8)
  | 0 => [[124, 124]]
  | 1 => [[38, 38]]
  | 2 => [[61], [60, 62], [60], [60, 61], [62], [62, 61]]
  | 3 => [[64], [94]]
  | 4 => [[58, 58]]
  | 5 => [[43], [45], [43, 46], [45, 46]]
  | _ => [[42], [47], [42, 46], [47, 46], [109, 111, 100]]
def leftOf (k : Nat) : Bool := k == 2 || k == 5 || k == 6
/-- Can an atom begin? -/
def begins (pat : Bool) (r : List Tok) : Bool :=
  (nx r).1 == 4 || (nx r).1 == 5 || (nx r).1 == 7 || (nx r).1 == 9 || (nx r).1 == (if pat then 5 else 6) || isAny [sTrue, sFalse, sOpen, sOpenL, if pat then sAny else sOpen] r

inductive Job where
  | expr
  | whole
  | level (k : Nat)
  | ops (k : Nat) (acc : T)
  | neg
  | args (acc : T)
  | atom (pat : Bool)
  | closed (list pat : Bool)
  | items (list pat : Bool)
  | pattern
  | binding
  | params
  | arm
  | arms
/-- What stands in the place of what would be too deep. -/
def deepT (what : List UInt8) (r : List Tok) : T := if (nx r).1 = 0 then missing what else node 3 [takeT r]
def deepR (r : List Tok) : List Tok := if (nx r).1 = 0 then r else takeR r
def kindOf : Bool → Bool → Nat
  | false, false => 14
  | true, false => 15
  | false, true => 17
  | true, true => 18
def betw (list : Bool) : List UInt8 := if list then sSemi else sComma
def endOf (list : Bool) : List UInt8 := if list then sCloseL else sClose
abbrev R := Option (List T × List Tok)
def P : Nat → Job → Nat → List Tok → R
  | 0, _, _, _ => none
  | n + 1, .expr, d, r => if d = 64 then some ([deepT sExpr r], deepR r) else P n .whole (d + 1) r
  | n + 1, .whole, d, r =>
    if isS sLet r then do
      let (bs, r2) ← P n .binding d (takeR r)
      let (es, r3) ← P n .expr d (needR sIn r2)
      some ([node 6 (takeT r :: bs ++ [needT sIn r2] ++ es)], r3)
    else if isS sFun r then do
      let (a, r1) ← P n (.atom true) d (takeR r)
      let (ps, r2) ← P n .params d r1
      let (es, r3) ← P n .expr d (needR sArrow r2)
      some ([node 7 (takeT r :: a ++ ps ++ [needT sArrow r2] ++ es)], r3)
    else if isS sIf r then do
      let (a, r1) ← P n .expr d (takeR r)
      let (b, r2) ← P n .expr d (needR sThen r1)
      let (c, r3) ← P n .expr d (needR sElse r2)
      some ([node 8 (takeT r :: a ++ [needT sThen r1] ++ b ++ [needT sElse r2] ++ c)], r3)
    else if isS sMatch r then do
      let (a, r1) ← P n .expr d (takeR r)
      let r2 := needR sWith r1
      let bar := if isS sBar r2 then [takeT r2] else []
      let (b, r3) ← P n .arm d (if isS sBar r2 then takeR r2 else r2)
      let (cs, r4) ← P n .arms d r3
      some ([node 9 (takeT r :: a ++ [needT sWith r1] ++ bar ++ b ++ cs)], r4)
    else P n (.level 0) d r
  | n + 1, .level k, d, r =>
    if k = 7 then P n .neg d r
    else do
      let (a, r1) ← P n (.level (k + 1)) d r
      match a with
      | [t] => P n (.ops k t) d r1
      | _ => none
  | n + 1, .ops k acc, d, r =>
    if isAny (opsOf k) r then do
      let (b, r1) ← P n (.level (if leftOf k then k + 1 else k)) d (takeR r)
      P n (.ops k (node 11 (acc :: takeT r :: b))) d r1
    else some ([acc], r)
  | n + 1, .neg, d, r =>
    if isAny [[45], [45, 46]] r then
      if d = 64 then some ([node 12 [takeT r, deepT sExpr (takeR r)]], deepR (takeR r))
      else do
        let (a, r1) ← P n .neg (d + 1) (takeR r)
        some ([node 12 (takeT r :: a)], r1)
    else do
      let (a, r1) ← P n (.atom false) d r
      match a with
      | [t] => P n (.args t) d r1
      | _ => none
  | n + 1, .args acc, d, r =>
    if begins false r then do
      let (b, r1) ← P n (.atom false) d r
      P n (.args (node 13 (acc :: b))) d r1
    else some ([acc], r)
  | n + 1, .atom pat, d, r =>
    if begins pat r then
      if (nx r).1 = 9 then some ([node 3 [takeT r]], takeR r)
      else if isS sOpen r then P n (.closed false pat) d r
      else if isS sOpenL r then P n (.closed true pat) d r
      else some ([takeT r], takeR r)
    else some ([missing (if pat then sPattern else sExpr)], r)
  | n + 1, .closed list pat, d, r =>
    let r1 := takeR r
    if isS (endOf list) r1 then some ([node (kindOf list pat) [takeT r, takeT r1]], takeR r1)
    else do
      let (a, r2) ← P n (if pat then .pattern else .expr) d r1
      let (bs, r3) ← P n (.items list pat) d r2
      some ([node (kindOf list pat) (takeT r :: a ++ bs ++ [needT (endOf list) r3])], needR (endOf list) r3)
  | n + 1, .items list pat, d, r =>
    if isS (betw list) r then do
      let (a, r1) ← P n (if pat then .pattern else .expr) d (takeR r)
      let (bs, r2) ← P n (.items list pat) d r1
      some (takeT r :: a ++ bs, r2)
    else some ([], r)
  | n + 1, .pattern, d, r =>
    if d = 64 then some ([deepT sPattern r], deepR r)
    else do
      let (a, r1) ← P n (.atom true) (d + 1) r
      if isS sCons r1 then do
        let (b, r2) ← P n .pattern (d + 1) (takeR r1)
        some ([node 16 (a ++ takeT r1 :: b)], r2)
      else some (a, r1)
  | n + 1, .binding, d, r => do
    let rc := if isS sRec r then [takeT r] else []
    let r0 := if isS sRec r then takeR r else r
    let (xs, r1) ← if (nx r0).1 = 4 then (do
        let (ps, r1) ← P n .params d (takeR r0)
        some (takeT r0 :: ps, r1))
      else P n (.atom true) d r0
    let (es, r2) ← P n .expr d (needR sEq r1)
    some (rc ++ xs ++ [needT sEq r1] ++ es, r2)
  | n + 1, .params, d, r =>
    if begins true r then do
      let (a, r1) ← P n (.atom true) d r
      let (bs, r2) ← P n .params d r1
      some (a ++ bs, r2)
    else some ([], r)
  | n + 1, .arm, d, r => do
    let (a, r1) ← P n .pattern d r
    let (es, r2) ← P n .expr d (needR sArrow r1)
    some ([node 10 (a ++ [needT sArrow r1] ++ es)], r2)
  | n + 1, .arms, d, r =>
    if isS sBar r then do
      let (a, r1) ← P n .arm d (takeR r)
      let (bs, r2) ← P n .arms d r1
      some (takeT r :: a ++ bs, r2)
    else some ([], r)
/-- Tokens up to a let. -/
def skip : Nat → List Tok → List T × List Tok
  | 0, r => ([], r)
  | n + 1, r => if (nx r).1 ≠ 0 ∧ isS sLet r = false then ((takeT r :: (skip n (takeR r)).1), (skip n (takeR r)).2) else ([], r)
def fuel (r : List Tok) : Nat := 30 * (r.length + 2)
end Go.Parse
/- The parser ends: enough fuel, and how much is taken. -/
namespace Go.Parse
open Go.VM Go.Lex

def single : Job → Bool
  | .items _ _ => false
  | .binding => false
  | .params => false
  | .arms => false
  | _ => true
/-- A job takes a token first. -/
def firm : Job → List Tok → Prop
  | .atom pat, r => begins pat r = true
  | .closed _ _, r => (nx r).1 ≠ 0
  | _, _ => False
/-- What a job may be begun at. -/
def at' : Job → List Tok → Prop
  | .closed _ _, r => (nx r).1 ≠ 0
  | _, _ => True
structure Fine (job : Job) (r : List Tok) (x : R) : Prop where
  some : ∃ l r', x = some (l, r') ∧ r'.length ≤ r.length ∧ (single job = true → ∃ t, l = [t]) ∧ (firm job r → r'.length < r.length)
end Go.Parse
/- Tokens: a token by itself, and a token before a line's end. -/
namespace Go.Lex
open Go.VM

end Go.Lex
/- Tokens: a token by itself is that token; a line's end behind one. -/
namespace Go.Lex
open Go.VM

theorem badT_line (r : List UInt8) : ∀ s : List UInt8, badT (s ++ 10 :: r) = badT s
  | [] => by
    show badT (10 :: r) = 0
    simp [badT]
  | c :: l => by
    show badT (c :: (l ++ 10 :: r)) = _
    simp only [badT, badT_line r l]
theorem txt_one {c : UInt8} (h1 : c ≠ 10) (h2 : c ≠ 34) : txt [c] = (9, 1) := by simp only [txt, if_neg h1, if_neg h2]
theorem txt_line (r : List UInt8) : ∀ s : List UInt8, txt (s ++ 10 :: r) = txt s
  | [] => by
    show txt (10 :: r) = (9, 0)
    cases r with
    | nil => rfl
    | cons d r => simp only [txt, if_true]
  | [c] => by
    show txt (c :: 10 :: r) = _
    by_cases h1 : c = 10
    · subst h1; simp only [txt, if_true]
    by_cases h2 : c = 34
    · simp only [txt, if_neg h1, if_pos h2]
    rw [txt_one h1 h2]
    by_cases h3 : c = 92
    · simp only [txt, if_neg h1, if_neg h2, if_pos h3, show isEsc 10 = false from rfl, Bool.false_eq_true, if_false]
      simp [badT]
    · have ih := txt_line r []
      have ih : txt (10 :: r) = (9, 0) := ih
      simp only [txt, if_neg h1, if_neg h2, if_neg h3, ih]
  | c :: d :: l => by
    have ih1 := txt_line r l
    have ih2 : txt (d :: (l ++ 10 :: r)) = txt (d :: l) := txt_line r (d :: l)
    have ih3 : badT (d :: (l ++ 10 :: r)) = badT (d :: l) := badT_line r (d :: l)
    show txt (c :: d :: (l ++ 10 :: r)) = _
    simp only [txt, ih1, ih2, ih3]
end Go.Lex
/- Tokens: cutting a token by itself, and before a line's end; what stands behind a token. -/
namespace Go.Lex
open Go.VM

/-- What stands behind so many tokens. -/
def behind (s : List UInt8) : Nat → List UInt8
  | 0 => s
  | n + 1 => (behind s n).drop (cut (behind s n)).2
end Go.Lex
/- Tokens: a token looks at most three bytes further. -/
namespace Go.Lex
open Go.VM

end Go.Lex
/- Tokens again, behind an edit, as plain functions. -/
namespace Go.Lex
open Go.VM

/-- How many tokens end three bytes ahead of so many. -/
def keeps : Nat → List (Nat × List UInt8) → Nat
  | _, [] => 0
  | r, p :: l => if p.2.length + 2 < r then keeps (r - p.2.length) l + 1 else 0
end Go.Lex
/- Nothing is lost; what is in order has nothing missing. -/
set_option linter.unusedSimpArgs false
namespace Go.Parse
open Go.VM Go.Lex

theorem bind_some {α β : Type} {x : Option α} {f : α → Option β} {b : β} (h : (x >>= f) = some b) : ∃ a, x = some a ∧ f a = some b := by
  cases x with
  | none => cases h
  | some a => exact ⟨a, rfl, h⟩
mutual
def goodT : T → Bool
  | .mk k tk _ l => k != 2 && k != 3 && (k != 1 || tk != 9) && goodL l
def goodL : List T → Bool
  | [] => true
  | t :: l => goodT t && goodL l
end
end Go.Parse
/- Trees of tokens: their text, their tokens, their leaves; plain functions. -/
set_option linter.unusedSimpArgs false
namespace Go.Green
open Go.VM Go.Lex Go.Parse

mutual
/-- A tree's leaves, but those of their Kids, each with its path. -/
def lv (path : List Nat) : T → List (List Nat × T)
  | .mk k tk tx l => if k = 1 then [(path, .mk k tk tx l)] else if k = 2 then [] else lvL path 0 l
def lvL (path : List Nat) (i : Nat) : List T → List (List Nat × T)
  | [] => []
  | t :: l => lv (path ++ [i]) t ++ lvL path (i + 1) l
end
end Go.Green
/- How deep the parser's trees are; single results. -/
set_option linter.unusedSimpArgs false
namespace Go.Parse
open Go.VM Go.Lex

end Go.Parse
