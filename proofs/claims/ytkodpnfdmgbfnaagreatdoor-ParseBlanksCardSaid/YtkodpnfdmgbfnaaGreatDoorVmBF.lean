/-
  (A part of the proof: Utf, Utf2, Kit3, Kit4, Kit5, LexSpec, ParseSpec, ParseTot, LexLoc, LexLoc2, LexLoc3, LexPre, RelexSpec, ParseText, ParseDep, RelexSpec2, TokLen, ParseTwo, ParseGlue, ParseSz, ParseMap, ParseGen, LexSw, ParseBl, ParseGen2, ParseTwo2.)
-/
import Derived.Test.YtkodpnfdmgbfnaaGreatDoorVmBD
import Derived.Test.YtkodpnfdmgbfnaaGreatDoorVmAJ
import Derived.Lib.TrimUEq
import Derived.Lib.ValidU
import Derived.Lib.AtoiAll
/- UTF-8 by its bytes: how many bytes a character has; what is valid; how many characters. -/
namespace Go.VM
open Go.Lib

/-- How many bytes the character has that begins with these; 0: there is none. -/
def szN (n b0 b1 b2 b3 : Nat) : Nat :=
  if b0 < 128 then 1
  else if 194 ≤ b0 ∧ b0 ≤ 223 then (if n < 2 ∨ b1 < 128 ∨ 191 < b1 then 0 else 2)
  else if 224 ≤ b0 ∧ b0 ≤ 239 then (if n < 3 ∨ b1 < 128 ∨ 191 < b1 ∨ b2 < 128 ∨ 191 < b2 ∨ (b0 = 224 ∧ b1 < 160) ∨ (b0 = 237 ∧ 159 < b1) then 0 else 3)
  else if 240 ≤ b0 ∧ b0 ≤ 244 then (if n < 4 ∨ b1 < 128 ∨ 191 < b1 ∨ b2 < 128 ∨ 191 < b2 ∨ b3 < 128 ∨ 191 < b3 ∨ (b0 = 240 ∧ b1 < 144) ∨ (b0 = 244 ∧ 143 < b1) then 0 else 4)
  else 0
set_option maxHeartbeats 2000000 in
theorem szN_decode {n b0 b1 b2 b3 : Nat} (h0 : b0 < 256) (h1 : b1 < 256) (h2 : b2 < 256) (h3 : b3 < 256) :
    (szN n b0 b1 b2 b3 = 0 ∧ decodeN n b0 b1 b2 b3 = (65533, 1)) ∨ (szN n b0 b1 b2 b3 = 1 ∧ b0 < 128 ∧ decodeN n b0 b1 b2 b3 = (b0, 1)) ∨ (2 ≤ szN n b0 b1 b2 b3 ∧ (decodeN n b0 b1 b2 b3).2 = szN n b0 b1 b2 b3) := by
  by_cases c0 : b0 < 128
  · refine .inr (.inl ⟨?_, c0, ?_⟩)
    · unfold szN; rw [if_pos c0]
    · unfold decodeN; rw [if_pos c0]
  by_cases z : szN n b0 b1 b2 b3 = 0
  · refine .inl ⟨z, ?_⟩
    unfold szN at z
    unfold decodeN
    repeat' split
    all_goals first | rfl | (exfalso; (repeat' (split at z)); all_goals omega)
  · have hc : (szN n b0 b1 b2 b3 = 2 ∧ (194 ≤ b0 ∧ b0 ≤ 223) ∧ ¬ (n < 2 ∨ b1 < 128 ∨ 191 < b1)) ∨
        (szN n b0 b1 b2 b3 = 3 ∧ (224 ≤ b0 ∧ b0 ≤ 239) ∧ ¬ (n < 3 ∨ b1 < 128 ∨ 191 < b1 ∨ b2 < 128 ∨ 191 < b2 ∨ (b0 = 224 ∧ b1 < 160) ∨ (b0 = 237 ∧ 159 < b1))) ∨
        (szN n b0 b1 b2 b3 = 4 ∧ (240 ≤ b0 ∧ b0 ≤ 244) ∧ ¬ (n < 4 ∨ b1 < 128 ∨ 191 < b1 ∨ b2 < 128 ∨ 191 < b2 ∨ b3 < 128 ∨ 191 < b3 ∨ (b0 = 240 ∧ b1 < 144) ∨ (b0 = 244 ∧ 143 < b1))) := by
      unfold szN at z ⊢
      rw [if_neg c0] at z ⊢
      by_cases c1 : 194 ≤ b0 ∧ b0 ≤ 223
      · rw [if_pos c1] at z ⊢
        by_cases d : n < 2 ∨ b1 < 128 ∨ 191 < b1
        · rw [if_pos d] at z; omega
        · rw [if_neg d]; exact .inl ⟨rfl, c1, d⟩
      rw [if_neg c1] at z ⊢
      by_cases c2 : 224 ≤ b0 ∧ b0 ≤ 239
      · rw [if_pos c2] at z ⊢
        by_cases d : n < 3 ∨ b1 < 128 ∨ 191 < b1 ∨ b2 < 128 ∨ 191 < b2 ∨ (b0 = 224 ∧ b1 < 160) ∨ (b0 = 237 ∧ 159 < b1)
        · rw [if_pos d] at z; omega
        · rw [if_neg d]; exact .inr (.inl ⟨rfl, c2, d⟩)
      rw [if_neg c2] at z ⊢
      by_cases c3 : 240 ≤ b0 ∧ b0 ≤ 244
      · rw [if_pos c3] at z ⊢
        by_cases d : n < 4 ∨ b1 < 128 ∨ 191 < b1 ∨ b2 < 128 ∨ 191 < b2 ∨ b3 < 128 ∨ 191 < b3 ∨ (b0 = 240 ∧ b1 < 144) ∨ (b0 = 244 ∧ 143 < b1)
        · rw [if_pos d] at z; omega
        · rw [if_neg d]; exact .inr (.inr ⟨rfl, c3, d⟩)
      · rw [if_neg c3] at z; omega
    refine .inr (.inr ?_)
    rcases hc with ⟨e, c, d⟩ | ⟨e, c, d⟩ | ⟨e, c, d⟩
    all_goals
      rw [e]
      refine ⟨by omega, ?_⟩
      unfold decodeN
      repeat' split
      all_goals first | rfl | (exfalso; omega)
theorem szN_le {n b0 b1 b2 b3 : Nat} (h : 1 ≤ n) : szN n b0 b1 b2 b3 ≤ n := by
  unfold szN
  repeat' split
  all_goals omega
def szL (l : List UInt8) : Nat := szN l.length (l.getD 0 0).toNat (l.getD 1 0).toNat (l.getD 2 0).toNat (l.getD 3 0).toNat
theorem szL_decode (l : List UInt8) : (szL l = 0 ∧ decodeL l = (65533, 1)) ∨ (szL l = 1 ∧ (l.getD 0 0).toNat < 128 ∧ decodeL l = ((l.getD 0 0).toNat, 1)) ∨ (2 ≤ szL l ∧ (decodeL l).2 = szL l) := by
  unfold szL
  rw [decodeL_N]
  exact szN_decode (UInt8.toNat_lt _) (UInt8.toNat_lt _) (UInt8.toNat_lt _) (UInt8.toNat_lt _)
theorem szL_le {l : List UInt8} (h : l ≠ []) : szL l ≤ l.length := szN_le (List.length_pos_iff.2 h)
/-- Valid: character by character (so many of them at most). -/
def validF : Nat → List UInt8 → Bool
  | 0, _ => true
  | n + 1, l => if l = [] then true else if szL l = 0 then false else validF n (l.drop (szL l))
theorem validF_eq : ∀ (n : Nat) (l : List UInt8), validGoD n l = validF n l
  | 0, _ => rfl
  | n + 1, l => by
    unfold validGoD validF
    by_cases h : l = []
    · rw [if_pos h, if_pos h]
    rw [if_neg h, if_neg h]
    rcases szL_decode l with ⟨h1, h2⟩ | ⟨h1, h2, h3⟩ | ⟨h1, h2⟩
    · have hd : (decodeL l).1 = 65533 ∧ (decodeL l).2 = 1 := by rw [h2]; exact ⟨rfl, rfl⟩
      rw [if_pos hd, if_pos h1]
    · have hd : ¬ ((decodeL l).1 = 65533 ∧ (decodeL l).2 = 1) := by rw [h3]; show ¬ ((l.getD 0 0).toNat = 65533 ∧ _); omega
      have hz : ¬ szL l = 0 := by omega
      rw [if_neg hd, if_neg hz, h3, h1]; exact validF_eq n _
    · have hd : ¬ ((decodeL l).1 = 65533 ∧ (decodeL l).2 = 1) := by omega
      have hz : ¬ szL l = 0 := by omega
      rw [if_neg hd, if_neg hz, h2]; exact validF_eq n _
def validS (l : List UInt8) : Bool := validF l.length l
theorem validS_eq (l : List UInt8) : validD l = validS l := validF_eq _ _
theorem validF_fuel : ∀ (n m : Nat) (l : List UInt8), l.length ≤ n → l.length ≤ m → validF n l = validF m l
  | 0, 0, _, _, _ => rfl
  | 0, m + 1, l, h, _ => by
    have : l = [] := List.eq_nil_of_length_eq_zero (by omega)
    subst this
    simp [validF]
  | n + 1, 0, l, _, h => by
    have : l = [] := List.eq_nil_of_length_eq_zero (by omega)
    subst this
    simp [validF]
  | n + 1, m + 1, l, hn, hm => by
    unfold validF
    by_cases h : l = []
    · rw [if_pos h, if_pos h]
    rw [if_neg h, if_neg h]
    by_cases hz : szL l = 0
    · rw [if_pos hz, if_pos hz]
    · rw [if_neg hz, if_neg hz, validF_fuel n m _ (by rw [List.length_drop]; omega) (by rw [List.length_drop]; omega)]
theorem validS_step {l : List UInt8} (h : l ≠ []) : validS l = if szL l = 0 then false else validS (l.drop (szL l)) := by
  unfold validS
  have hl : 0 < l.length := List.length_pos_iff.2 h
  obtain ⟨n, hn⟩ : ∃ n, l.length = n + 1 := ⟨l.length - 1, by omega⟩
  rw [hn]
  show (if l = [] then true else _) = _
  rw [if_neg h]
  by_cases hz : szL l = 0
  · rw [if_pos hz, if_pos hz]
  · rw [if_neg hz, if_neg hz]
    exact validF_fuel _ _ _ (by rw [List.length_drop]; omega) (Nat.le_refl _)
end Go.VM
/- UTF-8: how many characters, by the library's count. -/
namespace Go.VM
open Go.Lib

section
variable {β : Type} {O : Orc}
theorem planS_lib {f : List AV → Res AV} {args : List AV} {v : AV} (h : f args = .ok v) (st : St) (K : Kv β) : planS O (primP (.lib f) args) st K = K v st q0 := by
  simp only [planS, outS, primP, h, planO, bindO_ok]
theorem libValid_ok {s : List UInt8} (h : s.length ≤ 9223372036854775807) : libValid [.str s] = .ok (.bool (validS s)) := by
  simp only [libValid, Nat.ble_eq_true_of_le h, validS_eq]
end
end Go.VM
/- Small facts that walks of shallow forms want; slices that own their ends, side by side; bytes of a text. -/
namespace Go.VM
open Go

@[simp] theorem oneOf_one (v : AV) : oneOf [v] = v := id rfl
@[simp] theorem notNil_ip (cs : List AV) : notNil (.ip cs) = true := id rfl
@[simp] theorem notNil_mp (i o : Nat) : notNil (.mp i o) = true := id rfl
@[simp] theorem drop1 (a : AV) (l : List AV) : (a :: l).drop 1 = l := id rfl
@[simp] theorem drop2 (a b : AV) (l : List AV) : (a :: b :: l).drop 2 = l := id rfl
@[simp] theorem drop3 (a b c : AV) (l : List AV) : (a :: b :: c :: l).drop 3 = l := id rfl
@[simp] theorem drop4 (a b c d : AV) (l : List AV) : (a :: b :: c :: d :: l).drop 4 = l := id rfl
@[simp] theorem drop5 (a b c d e : AV) (l : List AV) : (a :: b :: c :: d :: e :: l).drop 5 = l := id rfl
@[simp] theorem takeO1 (a : AV) (l : List AV) : takeO 1 true (a :: l) = some (.agg [a]) := id rfl
@[simp] theorem takeO2 (a b : AV) (l : List AV) : takeO 2 true (a :: b :: l) = some (.agg [a, b]) := id rfl
@[simp] theorem takeO3 (a b c : AV) (l : List AV) : takeO 3 true (a :: b :: c :: l) = some (.agg [a, b, c]) := id rfl
@[simp] theorem takeO4 (a b c d : AV) (l : List AV) : takeO 4 true (a :: b :: c :: d :: l) = some (.agg [a, b, c, d]) := id rfl
@[simp] theorem cells_agg (cs : List AV) : AV.cells (.agg cs) = cs := id rfl
@[simp] theorem cells_str (s : List UInt8) : AV.cells (.str s) = [.str s] := id rfl
@[simp] theorem cells_int (k : IntKind) (n : Int) : AV.cells (.int k n) = [.int k n] := id rfl
@[simp] theorem cells_fn (f : Fn) (a b : List AV) : AV.cells (.fn f a b) = [.fn f a b] := id rfl
@[simp] theorem apart_made1 (i : Nat) (o : VM.Obj) : apart q0 ⟨[], .made i o⟩ = true := id rfl
@[simp] theorem apart_made2 (i : Nat) (o : VM.Obj) : apart ⟨[], .kept⟩ ⟨[], .made i o⟩ = true := id rfl
@[simp] theorem apart_wrote1 (i : Nat) (o : VM.Obj) : apart ⟨[], .kept⟩ ⟨[i], .wrote i o⟩ = true := id rfl
theorem wrapN {n : Nat} (h : n ≤ 9223372036854775807) : IntKind.wrap .i64 (n : Int) = (n : Int) := wrap_i64 (by omega) (by omega)
theorem wrapA {n m : Nat} (h : n + m ≤ 9223372036854775807) : IntKind.wrap .i64 ((n : Int) + (m : Int)) = ((n + m : Nat) : Int) := by rw [← Int.natCast_add]; exact wrapN h
theorem wrapA1 {n : Nat} (h : n + 1 ≤ 9223372036854775807) : IntKind.wrap .i64 ((n : Int) + 1) = ((n + 1 : Nat) : Int) := wrapA (m := 1) h
theorem wrapA2 {n : Nat} (h : n + 2 ≤ 9223372036854775807) : IntKind.wrap .i64 ((n : Int) + 2) = ((n + 2 : Nat) : Int) := wrapA (m := 2) h
theorem wrapS {n m : Nat} (h : m ≤ n) (hn : n ≤ 9223372036854775807) : IntKind.wrap .i64 ((n : Int) - (m : Int)) = ((n - m : Nat) : Int) := by rw [← wrapN (n := n - m) (by omega)]; congr 1; omega
theorem ble_of {a b : Nat} (h : a ≤ b) : Nat.ble a b = true := Nat.ble_eq_true_of_le h
/-! Slices that own their ends. -/
theorem own_keep {st st' : St} {z : Nat} {e : TypeId} {v : AV} {es : List AV} {but : Nat → Prop} (h : Own st z e v es) (k : Keeps st st' but) (hb : ∀ j, ownerOf v j → ¬ but j) : Own st' z e v es := by
  refine ⟨by rw [k.ro]; exact Nat.le_trans h.1 k.h, h.2.1, ?_⟩
  rcases h.2.2 with h | h | ⟨j, hv, hg, hr⟩
  · exact .inl h
  · exact .inr (.inl h)
  · exact .inr (.inr ⟨j, hv, k.old _ _ (hb j ⟨_, _, hv⟩) hg, by rw [k.ro]; exact hr⟩)
theorem own_app {st : St} {z b : Nat} {e : TypeId} {v : AV} {es : List AV} (w : AV) (h : Own st z e v es) (hr : roomOk (es.length + 1) ⟨.other, z, b, [], false, false⟩ = true) :
    ∃ v' st', Own st' z e v' (es ++ [w]) ∧ Keeps st st' (ownerOf v) ∧ ∃ x, ∀ {β : Type} (K : Kv β), appS z b e v [w] st K = K v' st' x := by
  obtain ⟨v', st', x, e1, e2, e3, _⟩ := app_own (b := b) (new := [w]) h (by simp) hr
  exact ⟨v', st', e2, e3, x, fun K => appS_of e1 K⟩
theorem room_of {n z b : Nat} (hn : n ≤ 1000000000) (hb : b ≤ 1000) (hz : 1 ≤ z) : roomOk n ⟨.other, z, b, [], false, false⟩ = true := by
  have : n * b ≤ 1000000000 * 1000 := Nat.mul_le_mul hn hb
  simp only [roomOk, ble_of (show n * b ≤ 70368744177664 by omega), ble_of (show n ≤ 70368744177664 by omega), ble_of hz]; rfl
/-- Such a slice frozen among others. -/
theorem own_freeze {st : St} {z : Nat} {e : TypeId} {v : AV} {es : List AV} (h : Own st z e v es) : ∃ x, IsSl z x es ∧ ∀ n, freeze st 0 (n + 1) v = .ok x := by
  rcases h with ⟨_, hl, ⟨rfl | rfl, rfl⟩ | rfl | ⟨k, rfl, _, _⟩⟩
  · exact ⟨.nils, IsSl.nils, fun _ => rfl⟩
  · exact ⟨.es, IsSl.emp, fun _ => rfl⟩
  · exact ⟨.sl z es .shut, IsSl.shut hl, fun _ => rfl⟩
  · exact ⟨.sl z es .wide, IsSl.wide hl, fun _ => rfl⟩
/-- A pair of such a slice and what freezing leaves. -/
theorem frz_own2 {st : St} {z : Nat} {e : TypeId} {v u : AV} {es : List AV} (h : Own st z e v es) (hu : Fz 1 u) (hb : bare u = true) : ∃ x, IsSl z x es ∧ ∀ {β : Type} (K : AV → Option β), frzS st 0 (.tup [v, u]) K = K (.tup [x, u]) := by
  obtain ⟨x, hx, e1⟩ := own_freeze h
  refine ⟨x, hx, fun K => ?_⟩
  have e2 : freeze st 0 100 (.tup [v, u]) = .ok (.tup [x, u]) := by
    show (do pure (.tup (← allE (freeze st 0 99) [v, u])) : Res AV) = _
    have e3 : allE (freeze st 0 99) [v, u] = .ok [x, u] := by
      simp only [allE, e1 98, hu st 0 99 (by omega), ok_bind, pure_eq]
    rw [e3]; rfl
  have e3 : bare (.tup [x, u]) = true := by
    show (bare x && (bare u && true)) = true
    rw [hx.bare, hb]; rfl
  simp only [frzS, e2, e3, chk_true]
theorem byte_ne {c d : UInt8} (h : c ≠ d) : ¬ ((c.toNat : Nat) : Int) = (d.toNat : Int) := by
  intro k
  have : c.toNat = d.toNat := by omega
  exact h (UInt8.toNat_inj.1 this)
theorem getElem_of {s : List UInt8} {i : Nat} {c : UInt8} (hlt : i < s.length) (hg : s[i]? = some c) : s[i] = c := by
  have := List.getElem?_eq_getElem hlt
  rw [hg] at this; exact (Option.some.inj this).symm
end Go.VM
/- Appends of many elements; tuples of what freezing leaves; arrays that may be written. -/
namespace Go.VM
open Go

theorem fitTs_of {agg : Bool} {β : Type} : ∀ {l : List AV} (_ : ∀ v ∈ l, ∀ (K : AV → Option β), fitT agg v K = K v) (K : List AV → Option β), fitTs agg l K = K l
  | [], _, _ => rfl
  | v :: l, h, K => by
    show fitT agg v (fun v' => fitTs agg l fun l' => K (v' :: l')) = _
    rw [h v (by simp), fitTs_of fun u hu => h u (List.mem_cons_of_mem _ hu)]
theorem sizesOk_of {z : Nat} {l : List AV} (h : ∀ v ∈ l, v.cells.length = z) : sizesOk z l = true := by
  refine List.all_eq_true.2 fun v hv => ?_
  rw [h v hv]; exact Nat.beq_refl z
/-- A tuple, frozen. -/
theorem frz_tup {st : St} {base : Nat} {vs xs : List AV} (h : allE (freeze st base 99) vs = .ok xs) (hb : bares xs = true) {β : Type} (K : AV → Option β) : frzS st base (.tup vs) K = K (.tup xs) := by
  have e : freeze st base 100 (.tup vs) = .ok (.tup xs) := by
    show (do pure (.tup (← allE (freeze st base 99) vs)) : Res AV) = _
    rw [h]; rfl
  have e3 : bare (.tup xs) = true := hb
  simp only [frzS, e, e3, chk_true]
theorem allE_cons {g : AV → Res AV} {v x : AV} {vs xs : List AV} (h : g v = .ok x) (hs : allE g vs = .ok xs) : allE g (v :: vs) = .ok (x :: xs) := by
  simp only [allE, h, hs, ok_bind, pure_eq]
theorem allE_nil {g : AV → Res AV} : allE g [] = .ok [] := rfl

/-! Arrays that may be written: a slice over all of an object's cells. -/
/-- Elements that are written cell by cell. -/
structure Els (z : Nat) (agg : Bool) (es : List AV) : Prop where
  one : ∀ v ∈ es, ones v.cells = true
  size : ∀ v ∈ es, v.cells.length = z
  fit : ∀ v ∈ es, ∀ c ∈ v.cells, Fz 1 c
  fits : ∀ v ∈ es, VM.fit v = .ok v
  shape : ∀ v ∈ es, agg = true → ∃ cs, v = .agg cs
  notagg : ∀ v ∈ es, agg = false → VM.one v = true
theorem Els.set {z : Nat} {agg : Bool} {es : List AV} (he : Els z agg es) {k : Nat} {w : AV} (hw : Els z agg [w]) : Els z agg (es.set k w) := by
  have key : ∀ v ∈ es.set k w, v ∈ es ∨ v = w := fun v hv => List.mem_or_eq_of_mem_set hv
  have hm : w ∈ [w] := by simp
  exact ⟨fun v hv => (key v hv).elim (he.one v) (fun e => e ▸ hw.one w hm), fun v hv => (key v hv).elim (he.size v) (fun e => e ▸ hw.size w hm),
    fun v hv => (key v hv).elim (he.fit v) (fun e => e ▸ hw.fit w hm), fun v hv => (key v hv).elim (he.fits v) (fun e => e ▸ hw.fits w hm),
    fun v hv => (key v hv).elim (he.shape v) (fun e => e ▸ hw.shape w hm), fun v hv => (key v hv).elim (he.notagg v) (fun e => e ▸ hw.notagg w hm)⟩
/-- A variable that is there, written whole. -/
theorem var_put {O : Orc} {st : St} {id : Nat} {t : TypeId} {z : Nat} {old cs : List AV} (v : AV) (hg : st.get id = .ok (.cells t old)) (hl : old.length = z) (hc : cs.length = z) (hro : st.ro ≤ id) :
    ∃ st', st'.get id = .ok (.cells t cs) ∧ Keeps st st' (· = id) ∧ st'.h = st.h ∧ ∃ fx, ∀ {β : Type} (K : Kv β), storeS O z (.mp id 0) v cs st K = K undef st' fx := by
  refine ⟨st.put id (.cells t cs), St.get_put_same (St.get_ok.1 hg).1, Keeps.put rfl, rfl, ⟨[id], .wrote id (.cells t (splice old 0 cs))⟩, fun K => ?_⟩
  rw [storeS_at hg hc (by omega) hro, splice_all (by omega)]
/-! What reads the same before and after a call. -/
def Rf (d : Nat) (v : AV) : Prop := ∀ f, d ≤ f → sameAV f v v = true
theorem Rf.mono {d e : Nat} {v : AV} (h : Rf d v) (hd : d ≤ e) : Rf e v := fun f hf => h f (Nat.le_trans hd hf)
theorem sameStr_refl : ∀ s : List UInt8, sameStr s s = true
  | [] => rfl
  | a :: l => by simp only [sameStr, Nat.beq_refl]; exact sameStr_refl l
theorem sameAll_refl {g : AV → AV → Bool} : ∀ {l : List AV}, (∀ v ∈ l, g v v = true) → sameAll g l l = true
  | [], _ => rfl
  | v :: l, h => by simp only [sameAll, h v (by simp)]; exact sameAll_refl fun u hu => h u (List.mem_cons_of_mem _ hu)
theorem rf_int (k : IntKind) (n : Int) : Rf 1 (.int k n) := fun f hf => by cases f with | zero => omega | succ f => show (decide (k = k) && decide (n = n)) = true; simp
theorem rf_str (s : List UInt8) : Rf 1 (.str s) := fun f hf => by cases f with | zero => omega | succ f => exact sameStr_refl s
theorem rf_nils : Rf 1 .nils := fun f hf => by cases f with | zero => omega | succ f => rfl
theorem rf_es : Rf 1 .es := fun f hf => by cases f with | zero => omega | succ f => rfl
theorem rf_agg {d : Nat} {cs : List AV} (h : ∀ c ∈ cs, Rf d c) : Rf (d + 1) (.agg cs) := fun f hf => by
  cases f with
  | zero => omega
  | succ f => exact sameAll_refl fun v hv => h v hv f (by omega)
theorem rf_sl {d z : Nat} {p : Perm} {cs : List AV} (h : ∀ c ∈ cs, Rf d c) : Rf (d + 1) (.sl z cs p) := fun f hf => by
  cases f with
  | zero => omega
  | succ f =>
    show (z.beq z && decide (p = p) && sameAll (sameAV f) cs cs) = true
    rw [sameAll_refl fun v hv => h v hv f (by omega)]
    simp
theorem sameAt_of {st st' : St} {i : Nat} {t : TypeId} {cs : List AV} {d : Nat} (h1 : st.get i = .ok (.cells t cs)) (h2 : st'.get i = .ok (.cells t cs)) (h : ∀ c ∈ cs, Rf d c) (hd : d ≤ 1000000000000000000) : sameAt st st' i = true := by
  have e : sameAll (sameAV 1000000000000000000) cs cs = true := sameAll_refl fun v hv => h v hv _ hd
  unfold sameAt
  rw [h1, h2]
  show (t.beq t && sameAll (sameAV 1000000000000000000) cs cs) = true
  rw [e]; simp
theorem apart_all {st st' : St} {i : Nat} (h : sameAt st st' i = true) : apart ⟨[i], .kept⟩ ⟨[], .all st st'⟩ = true := by
  show ([i].all (sameAt st st')) = true
  simp [h]
/-- A variable that is there, written whole; with what that did. -/
theorem var_put2 {O : Orc} {st : St} {id : Nat} {t : TypeId} {z : Nat} {old cs : List AV} (v : AV) (hg : st.get id = .ok (.cells t old)) (hl : old.length = z) (hc : cs.length = z) (hro : st.ro ≤ id) :
    ∃ st' o, st'.get id = .ok (.cells t cs) ∧ Keeps st st' (· = id) ∧ st'.h = st.h ∧ ∀ {β : Type} (K : Kv β), storeS O z (.mp id 0) v cs st K = K undef st' ⟨[id], .wrote id o⟩ := by
  refine ⟨st.put id (.cells t cs), .cells t (splice old 0 cs), St.get_put_same (St.get_ok.1 hg).1, Keeps.put rfl, rfl, fun K => ?_⟩
  rw [storeS_at hg hc (by omega) hro, splice_all (by omega)]
theorem apart_wr {a i : Nat} {o : Obj} (h : a ≠ i) : apart ⟨[a], .kept⟩ ⟨[i], .wrote i o⟩ = true := by
  show (![a].contains i) = true
  simp [h.symm]
theorem apart_wr0 {i : Nat} {o : Obj} : apart ⟨[], .kept⟩ ⟨[i], .wrote i o⟩ = true := id rfl
theorem Keeps.of_ne {st st' : St} {p : Nat} (k : Keeps st st' (· = p)) {j : Nat} {o : Obj} (hj : j ≠ p) (h : st.get j = .ok o) : st'.get j = .ok o := k.old j o hj h
theorem Keeps.weak {st st' : St} {p q : Nat → Prop} (k : Keeps st st' p) (h : ∀ j, p j → q j) : Keeps st st' q := ⟨k.ro, k.h, fun j o hj => k.old j o fun hp => hj (h j hp)⟩
/-- What is new in between may be written. -/
theorem Keeps.fresh {a b c : St} {p : Nat → Prop} {i : Nat} (h : Keeps a b p) (k : Keeps b c (· = i)) (hi : a.h ≤ i) : Keeps a c p :=
  ⟨k.ro.trans h.ro, Nat.le_trans h.h k.h, fun j o hj hg => k.old j o (fun e => by
    have := (St.get_ok.1 hg).1
    omega) (h.old j o hj hg)⟩
end Go.VM
/- What is left to do ends well: steps from the front. -/
namespace Go.VM
open Go

/-- It comes to something of which this is true. -/
def Goes {β : Type} (e : Option β) (Q : β → Prop) : Prop := ∃ b, e = some b ∧ Q b
section
variable {β : Type} {Q : β → Prop} {E : Env} {st : St}
theorem Goes.step {e e' : Option β} (h : e = e') (g : Goes e' Q) : Goes e Q := h ▸ g
theorem Goes.some {b : β} (h : Q b) : Goes (.some b) Q := ⟨b, rfl, h⟩
theorem Goes.mono {e : Option β} {Q' : β → Prop} (h : Goes e Q) (k : ∀ b, Q b → Q' b) : Goes e Q' := by
  obtain ⟨b, e, h⟩ := h
  exact ⟨b, e, k b h⟩
theorem Goes.bind {α : Type} {e : Option α} {R : α → Prop} {K : α → Option β} (h : Goes e R) (g : ∀ a, R a → Goes (K a) Q) : Goes (bindO e K) Q := by
  obtain ⟨a, e, h⟩ := h
  rw [e]
  exact g a h
theorem Goes.wide {F : FuncId} {args : List AV} {Q : AV × St → Prop} (h : Goes (wideS E F args st) Q) : Goes ((orc E).wide F args st) Q := by
  obtain ⟨b, e, h⟩ := h
  exact ⟨b, wide_of e, h⟩
theorem Goes.bare {F : FuncId} {args : List AV} {Q : AV → Prop} (hm : (E.memo F, (E.rule F).isSome) = ([], false)) (h : Goes (bareS E F args) Q) : Goes ((orc E).bare F args) Q := by
  obtain ⟨b, e, h⟩ := h
  exact ⟨b, bare_of hm e, h⟩
theorem Goes.callW {F : FuncId} {args : List AV} {R : AV × St → Prop} (h : Goes ((orc E).wide F args st) R) (h1 : E.isLook F = false) (h2 : (bares (args.map strip) && !E.full F) = false) {K : Kv β} (g : ∀ v s, R (v, s) → Goes (K v s ⟨[], .all st s⟩) Q) : Goes (callS (orc E) F args st K) Q := by
  obtain ⟨⟨v, s⟩, e, h⟩ := h
  exact Goes.step (callS_wide (E := E) K h1 h2 e) (g v s h)
theorem Goes.one {v : AV} (h : VM.one v = true) {e : Option β} (g : Goes e Q) : Goes (asOne v e) Q := Goes.step (asOne_of h e) g
/-- A loop that ends by what gets less. -/
theorem Goes.loop {σ : Type} {F : σ → Option (Sum σ β)} {I : Nat → σ → Prop} (h : ∀ n s, I n s → Goes (F s) fun r => match r with
    | .inl s' => ∃ m, m < n ∧ I m s'
    | .inr b => Q b) : ∀ n s, I n s → Goes (loopO F s) Q := by
  intro n
  induction n using Nat.strongRecOn with
  | _ n ih =>
    intro s hs
    obtain ⟨r, e, hr⟩ := h n s hs
    cases r with
    | inl s' =>
      obtain ⟨m, hm, hi⟩ := hr
      rw [loopO_inl e]
      exact ih m hm s' hi
    | inr b => exact ⟨b, loopO_inr e, hr⟩
/-! Variables of a function. -/
abbrev Vrs := List (Nat × TypeId × List AV)
structure Vw (st : St) (l : Vrs) : Prop where
  v : ∀ q ∈ l, st.get q.1 = .ok (.cells q.2.1 q.2.2) ∧ st.ro ≤ q.1
  nd : (l.map (·.1)).Nodup
  ro : st.ro ≤ st.h
variable {l l1 l2 : Vrs}
theorem Vw.start (h : st.ro ≤ st.h) : Vw st [] := ⟨(fun _ h => by cases h), List.nodup_nil, h⟩
theorem Vw.get (w : Vw st l) {a : Nat} {t : TypeId} {cs : List AV} (h : (a, t, cs) ∈ l) : st.get a = .ok (.cells t cs) := (w.v _ h).1
theorem Vw.sub {l' : Vrs} (w : Vw st l) (h : List.Sublist l' l) : Vw st l' := ⟨fun q hq => w.v q (h.subset hq), (h.map _).nodup w.nd, w.ro⟩
theorem Vw.alloc (w : Vw st l) (t : TypeId) (cs : List AV) : Vw (st.add (.cells t cs)) ((st.h, t, cs) :: l) := by
  refine ⟨fun q hq => ?_, ?_, Nat.le_succ_of_le w.ro⟩
  · rcases List.mem_cons.1 hq with rfl | hq
    · exact ⟨St.get_add_new, w.ro⟩
    · exact ⟨St.get_add_old (w.v q hq).1, (w.v q hq).2⟩
  · rw [List.map_cons, List.nodup_cons]
    refine ⟨fun hm => ?_, w.nd⟩
    obtain ⟨q, hq, e⟩ := List.mem_map.1 hm
    have h1 := (St.get_ok.1 (w.v q hq).1).1
    simp only at e
    omega
theorem Vw.putAt {a : Nat} {t t' : TypeId} {old : List AV} (w : Vw st (l1 ++ (a, t, old) :: l2)) (cs : List AV) : Vw (st.put a (.cells t' cs)) (l1 ++ (a, t', cs) :: l2) := by
  have hm : (a, t, old) ∈ l1 ++ (a, t, old) :: l2 := List.mem_append_right _ List.mem_cons_self
  have hg := w.get hm
  have hnd := w.nd
  rw [List.map_append, List.map_cons] at hnd
  refine ⟨fun q hq => ?_, by rw [List.map_append, List.map_cons]; exact hnd, w.ro⟩
  have other : ∀ q ∈ l1 ++ (a, t, old) :: l2, q.1 ≠ a → (st.put a (.cells t' cs)).get q.1 = .ok (.cells q.2.1 q.2.2) ∧ st.ro ≤ q.1 := fun q hq hne =>
    ⟨by rw [St.get_put_ne (fun e => hne e.symm)]; exact (w.v q hq).1, (w.v q hq).2⟩
  rcases List.mem_append.1 hq with hq | hq
  · refine other q (List.mem_append_left _ hq) fun e => ?_
    have := (List.nodup_append.1 hnd).2.2 q.1 (List.mem_map_of_mem hq) a List.mem_cons_self
    exact this e
  · rcases List.mem_cons.1 hq with rfl | hq
    · exact ⟨St.get_put_same (St.get_ok.1 hg).1, (w.v _ hm).2⟩
    · refine other q (List.mem_append_right _ (List.mem_cons_of_mem _ hq)) fun e => ?_
      have h1 := (List.nodup_cons.1 (List.nodup_append.1 hnd).2.1).1
      have h2 : q.1 ∈ l2.map (·.1) := List.mem_map_of_mem hq
      rw [e] at h2
      exact h1 h2
theorem Goes.valloc (w : Vw st l) {ty : TypeId} {cs : List AV} {K : St → Option β} (g : ∀ s, s.h = st.h + 1 → Vw s ((st.h, ty, cs) :: l) → Goes (K s) Q) : Goes (letSt (st.add (.cells ty cs)) K) Q := g _ rfl (w.alloc ty cs)
theorem Goes.vstore {O : Orc} (l1 : Vrs) {a : Nat} {ty : TypeId} {old : List AV} (w : Vw st (l1 ++ (a, ty, old) :: l2)) {z : Nat} {v : AV} {cs : List AV} {K : Kv β}
    (g : ∀ s fx, s.h = st.h → Vw s (l1 ++ (a, ty, cs) :: l2) → Goes (K VM.undef s fx) Q) (hz : old.length = z := by rfl) (hc : cs.length = z := by rfl) : Goes (storeS O z (.mp a 0) v cs st K) Q := by
  have hm : (a, ty, old) ∈ l1 ++ (a, ty, old) :: l2 := List.mem_append_right _ List.mem_cons_self
  have e : storeS O z (.mp a 0) v cs st K = K VM.undef (st.put a (.cells ty cs)) ⟨[a], .wrote a (.cells ty cs)⟩ := by
    rw [storeS_at (w.get hm) hc (by omega) (w.v _ hm).2, splice_all (by omega)]
  exact Goes.step e (g _ _ rfl (w.putAt cs))
theorem Goes.vload1 {a : Nat} {ty : TypeId} {cs : List AV} (hm : (a, ty, cs) ∈ l) (w : Vw st l) {o : Nat} {v : AV} {post : List AV} (hv : cs.drop o = v :: post) {K : AV → List Nat → Option β} (g : Goes (K v [a]) Q) : Goes (loadS 1 false (.mp a o) st K) Q := by
  refine Goes.step (loadS_mp (w.get hm) _ _ _ _) ?_
  rw [hv]
  exact g
theorem Goes.vload {a : Nat} {ty : TypeId} {cs : List AV} (hm : (a, ty, cs) ∈ l) (w : Vw st l) {z : Nat} (hz : cs.length = z) {K : AV → List Nat → Option β} (g : Goes (K (.agg cs) [a]) Q) : Goes (loadS z true (.mp a 0) st K) Q := by
  refine Goes.step (loadS_mp (w.get hm) _ _ _ _) ?_
  rw [List.drop_zero, takeO_all hz]
  exact g
theorem Goes.eq {e : Option β} {b : β} (h : Goes e (· = b)) : e = .some b := by
  obtain ⟨c, e, rfl⟩ := h
  exact e
end
end Go.VM
/- Tokens of a text, as plain functions. -/
namespace Go.Lex
open Go.VM

def wh (p : UInt8 → Bool) (s : List UInt8) : Nat := (s.takeWhile p).length
def isBlank (b : UInt8) : Bool := b == 32 || b == 9 || b == 10 || b == 13
def isLow (b : UInt8) : Bool := (decide (97 ≤ b.toNat) && decide (b.toNat ≤ 122)) || b == 95
def isDig (b : UInt8) : Bool := decide (48 ≤ b.toNat) && decide (b.toNat ≤ 57)
def isBeh (b : UInt8) : Bool := isLow b || isDig b || (decide (65 ≤ b.toNat) && decide (b.toNat ≤ 90)) || b == 39
/-- Where a remark ends, so many being open. -/
def rem : List UInt8 → Nat → Option Nat
  | [], _ => none
  | [_], _ => none
  | a :: b :: l, d =>
    if a = 40 ∧ b = 42 then (rem l (d + 1)).map (· + 2)
    else if a = 42 ∧ b = 41 then (if d = 1 then some 2 else (rem l (d - 1)).map (· + 2))
    else (rem (b :: l) d).map (· + 1)
def words : List (List UInt8) := [[108, 101, 116], [114, 101, 99], [105, 110], [102, 117, 110], [105, 102], [116, 104, 101, 110], [101, 108, 115, 101], [109, 97, 116, 99, 104], [119, 105, 116, 104], [116, 114, 117, 101], [102, 97, 108, 115, 101], [109, 111, 100]]
def nameK (w : List UInt8) : Nat := if w = [95] then 8 else if words.contains w then 3 else 4
def stepV (a : Nat) (c : UInt8) : Nat := a * 10 + (c.toNat - 48)
def numV (acc : Nat) (l : List UInt8) : Nat := l.foldl stepV acc
theorem numV_nil (a : Nat) : numV a [] = a := id rfl
theorem numV_cons (a : Nat) (c : UInt8) (l : List UInt8) : numV a (c :: l) = numV (stepV a c) l := id rfl
def isSgn (c : UInt8) : Bool := c == 43 || c == 45
def sgn : List UInt8 → Nat
  | c :: _ => if isSgn c then 1 else 0
  | [] => 0
/-- An exponent behind a Float's digits: how many bytes, and its value. -/
def expo (s : List UInt8) : Nat × Int :=
  match s with
  | [] => (0, 0)
  | e :: l =>
    if e = 101 ∨ e = 69 then
      let d := wh isDig (l.drop (sgn l))
      if d = 0 then (0, 0)
      else
        let x : Int := ((min (numV 0 ((l.drop (sgn l)).take d)) 1000000 : Nat) : Int)
        (1 + sgn l + d, if l.head? = some 45 then -x else x)
    else (0, 0)
/-- A number: its kind and how many bytes. -/
def number (s : List UInt8) : Nat × Nat :=
  let n := wh isDig s
  if (s.drop n).head? = some 46 then
    let k := wh isDig (s.drop (n + 1))
    let x := expo (s.drop (n + 1 + k))
    (if n + k > 15 ∨ x.2 - (k : Int) < -22 ∨ x.2 - (k : Int) > 22 then 9 else 6, n + 1 + k + x.1)
  else (5, n)
/-- What is left of a Bad text: up to its quote, or its line's end. -/
def badT : List UInt8 → Nat
  | [] => 0
  | c :: l => if c = 10 then 0 else if c = 34 then 1 else badT l + 1
def isEsc (c : UInt8) : Bool := c == 110 || c == 116 || c == 92 || c == 34
/-- A text behind its quote: its kind and how many bytes. -/
def txt : List UInt8 → Nat × Nat
  | [] => (9, 0)
  | [c] => if c = 10 then (9, 0) else if c = 34 then (7, 1) else (9, 1)
  | c :: d :: l =>
    if c = 10 then (9, 0) else if c = 34 then (7, 1)
    else if c = 92 then (if isEsc d then ((txt l).1, (txt l).2 + 2) else (9, badT (d :: l) + 1))
    else ((txt (d :: l)).1, (txt (d :: l)).2 + 1)
def twos : List (List UInt8) := [[45, 62], [58, 58], [60, 62], [60, 61], [62, 61], [43, 46], [45, 46], [42, 46], [47, 46], [38, 38], [124, 124]]
def ones1 : List UInt8 := [40, 41, 91, 93, 44, 59, 124, 61, 60, 62, 43, 45, 42, 47, 94, 64]
def isOne (c : UInt8) : Bool := ones1.contains c
/-- The token that a text begins with: its kind, and how many bytes. -/
def cut (s : List UInt8) : Nat × Nat :=
  match s with
  | [] => (9, 0)
  | c :: l =>
    if isBlank c then (1, wh isBlank s)
    else if s.take 2 = [40, 42] then (match rem (s.drop 2) 1 with | some n => (2, n + 2) | none => (9, s.length))
    else if isLow c then (nameK (s.takeWhile isBeh), wh isBeh s)
    else if isDig c then number s
    else if c = 34 then ((txt l).1, (txt l).2 + 1)
    else if twos.contains (s.take 2) then (8, 2)
    else if isOne c then (8, 1)
    else (9, if szL s = 0 then 1 else szL s)
/-- A text's tokens. -/
def toks : Nat → List UInt8 → List (Nat × List UInt8)
  | 0, _ => []
  | n + 1, s => match s with
    | [] => []
    | _ :: _ => ((cut s).1, s.take (cut s).2) :: toks n (s.drop (cut s).2)
def tokens (s : List UInt8) : List (Nat × List UInt8) := toks s.length s

theorem wh_le (p : UInt8 → Bool) (s : List UInt8) : wh p s ≤ s.length := (List.takeWhile_sublist p).length_le
theorem wh_take (p : UInt8 → Bool) (s : List UInt8) : s.take (wh p s) = s.takeWhile p := by
  unfold wh
  induction s with
  | nil => rfl
  | cons c l ih =>
    rw [List.takeWhile_cons]
    split
    · simp [ih]
    · simp
theorem wh_drop (p : UInt8 → Bool) (s : List UInt8) : s.drop (wh p s) = s.dropWhile p := by
  unfold wh
  induction s with
  | nil => rfl
  | cons c l ih =>
    rw [List.takeWhile_cons, List.dropWhile_cons]
    split
    · simp [ih]
    · simp
theorem wh_len (p : UInt8 → Bool) (s : List UInt8) : s.length = wh p s + (s.dropWhile p).length := by
  rw [← wh_drop, List.length_drop]
  have := wh_le p s
  omega
theorem wh_cons (p : UInt8 → Bool) (c : UInt8) (l : List UInt8) : wh p (c :: l) = if p c = true then wh p l + 1 else 0 := by
  unfold wh
  rw [List.takeWhile_cons]
  split <;> simp
theorem rem_le : ∀ (s : List UInt8) (d n : Nat), rem s d = some n → 2 ≤ n ∧ n ≤ s.length
  | [], _, _, h => by simp [rem] at h
  | [_], _, _, h => by simp [rem] at h
  | a :: b :: l, d, n, h => by
    simp only [rem] at h
    split at h
    · obtain ⟨m, hm, rfl⟩ := Option.map_eq_some_iff.1 h
      have := rem_le l (d + 1) m hm
      simp; omega
    · split at h
      · split at h
        · cases h; simp
        · obtain ⟨m, hm, rfl⟩ := Option.map_eq_some_iff.1 h
          have := rem_le l (d - 1) m hm
          simp; omega
      · obtain ⟨m, hm, rfl⟩ := Option.map_eq_some_iff.1 h
        have := rem_le (b :: l) d m hm
        simp at this ⊢; omega
theorem badT_le : ∀ (s : List UInt8), badT s ≤ s.length
  | [] => Nat.le_refl _
  | c :: l => by
    have := badT_le l
    simp only [badT]
    split
    · omega
    · split
      · simp
      · simp; exact this
theorem txt_le : ∀ (s : List UInt8), (txt s).2 ≤ s.length
  | [] => Nat.le_refl _
  | [c] => by
    simp only [txt]
    split
    · simp
    · split <;> simp
  | c :: d :: l => by
    have h1 := txt_le l
    have h2 := txt_le (d :: l)
    have h3 := badT_le (d :: l)
    simp only [txt, List.length_cons] at *
    split
    · simp
    · split
      · simp
      · split
        · split
          · simp; omega
          · simp; omega
        · simp; omega
theorem sgn_le (l : List UInt8) : sgn l ≤ l.length := by
  cases l with
  | nil => exact Nat.le_refl _
  | cons c l => simp only [sgn]; split <;> simp
theorem expo_le (s : List UInt8) : (expo s).1 ≤ s.length := by
  unfold expo
  cases s with
  | nil => simp
  | cons e l =>
    dsimp only
    split
    · have hg := sgn_le l
      have hd := wh_le isDig (l.drop (sgn l))
      rw [List.length_drop] at hd
      split
      · simp
      · simp only [List.length_cons]; omega
    · simp
theorem number_le (s : List UInt8) (h : 1 ≤ wh isDig s) : 1 ≤ (number s).2 ∧ (number s).2 ≤ s.length := by
  unfold number
  have h1 := wh_le isDig s
  dsimp only
  split
  · rename_i hd
    have hlt : wh isDig s < s.length := by
      rcases Nat.lt_or_ge (wh isDig s) s.length with q | q
      · exact q
      · rw [List.drop_of_length_le q] at hd; cases hd
    have h2 := wh_le isDig (s.drop (wh isDig s + 1))
    rw [List.length_drop] at h2
    have h3 := expo_le (s.drop (wh isDig s + 1 + wh isDig (s.drop (wh isDig s + 1))))
    rw [List.length_drop] at h3
    dsimp only
    omega
  · exact ⟨h, h1⟩
theorem cut_le {s : List UInt8} (h : s ≠ []) : 1 ≤ (cut s).2 ∧ (cut s).2 ≤ s.length := by
  cases s with
  | nil => exact absurd rfl h
  | cons c l =>
    unfold cut
    dsimp only
    split
    · rename_i hb
      exact ⟨by rw [wh_cons, if_pos hb]; omega, wh_le _ _⟩
    split
    · rename_i h2
      have hl : 2 ≤ (c :: l).length := by
        have := congrArg List.length h2
        rw [List.length_take] at this
        simp at this
        simp; omega
      cases hr : rem (List.drop 2 (c :: l)) 1 with
      | some n =>
        have := rem_le _ _ _ hr
        rw [List.length_drop] at this
        dsimp only; omega
      | none => dsimp only; omega
    split
    · rename_i hb
      have hb' : isBeh c = true := by unfold isBeh; rw [hb]; rfl
      exact ⟨by rw [wh_cons, if_pos hb']; omega, wh_le _ _⟩
    split
    · rename_i hb
      exact number_le _ (by rw [wh_cons, if_pos hb]; omega)
    split
    · have := txt_le l
      simp; omega
    split
    · rename_i h2
      have hl : 2 ≤ (c :: l).length := by
        rcases Nat.lt_or_ge (c :: l).length 2 with q | q
        · exfalso
          have : l = [] := by
            cases l with
            | nil => rfl
            | cons d l => simp at q; omega
          subst this
          simp [twos] at h2
        · exact q
      dsimp only; omega
    split
    · simp
    · have := szL_le (l := c :: l) (by simp)
      dsimp only
      split
      · simp
      · omega
theorem toks_fuel : ∀ (n m : Nat) (s : List UInt8), s.length ≤ n → s.length ≤ m → toks n s = toks m s
  | 0, 0, _, _, _ => rfl
  | 0, m + 1, s, h, _ => by
    have : s = [] := List.eq_nil_of_length_eq_zero (by omega)
    subst this; rfl
  | n + 1, 0, s, _, h => by
    have : s = [] := List.eq_nil_of_length_eq_zero (by omega)
    subst this; rfl
  | n + 1, m + 1, [], _, _ => rfl
  | n + 1, m + 1, c :: l, hn, hm => by
    have hc := cut_le (s := c :: l) (by simp)
    simp only [toks]
    rw [toks_fuel n m ((c :: l).drop (cut (c :: l)).2) (by rw [List.length_drop]; omega) (by rw [List.length_drop]; omega)]
theorem tokens_cons {s : List UInt8} (h : s ≠ []) : tokens s = ((cut s).1, s.take (cut s).2) :: tokens (s.drop (cut s).2) := by
  cases s with
  | nil => exact absurd rfl h
  | cons c l =>
    have hc := cut_le (s := c :: l) (by simp)
    show toks (l.length + 1) (c :: l) = _
    simp only [toks]
    congr 1
    exact toks_fuel _ _ _ (by rw [List.length_drop]; simp at hc ⊢; omega) (Nat.le_refl _)
theorem tokens_nil : tokens [] = [] := rfl
end Go.Lex
/- Trees of tokens, as plain functions. -/
namespace Go.Parse
open Go.VM Go.Lex

abbrev Tok := Nat × List UInt8
inductive T where
  | mk (k tk : Nat) (tx : List UInt8) (kids : List T)
  deriving Inhabited
def T.kids : T → List T | .mk _ _ _ l => l
def T.kind : T → Nat | .mk k _ _ _ => k

def trivB (t : Tok) : Bool := t.1 == 1 || t.1 == 2
def nx (r : List Tok) : Tok :=
  match r.dropWhile trivB with
  | [] => (0, [])
  | t :: _ => t
def leaf (t : Tok) (ks : List T) : T := .mk 1 t.1 t.2 ks
def leaf0 (t : Tok) : T := leaf t []
/-- The leaf of the token that is next, and what stands behind it. -/
def takeT (r : List Tok) : T := leaf (nx r) ((r.takeWhile trivB).map leaf0)
def takeR (r : List Tok) : List Tok := (r.dropWhile trivB).drop 1
def isS (s : List UInt8) (r : List Tok) : Bool := ((nx r).1 == 3 || (nx r).1 == 8) && (nx r).2 == s
def isAny (l : List (List UInt8)) (r : List Tok) : Bool := ((nx r).1 == 3 || (nx r).1 == 8) && l.any fun s => s == (nx r).2
def missing (s : List UInt8) : T := .mk 2 0 s []
def needT (s : List UInt8) (r : List Tok) : T := if isS s r then takeT r else missing s
def needR (s : List UInt8) (r : List Tok) : List Tok := if isS s r then takeR r else r
abbrev node (k : Nat) (l : List T) : T := .mk k 0 [] l

def sLet : List UInt8 := [108, 101, 116]
def sRec : List UInt8 := [114, 101, 99]
def sIn : List UInt8 := [105, 110]
def sFun : List UInt8 := [102, 117, 110]
def sIf : List UInt8 := [105, 102]
def sThen : List UInt8 := [116, 104, 101, 110]
def sElse : List UInt8 := [101, 108, 115, 101]
def sMatch : List UInt8 := [109, 97, 116, 99, 104]
def sWith : List UInt8 := [119, 105, 116, 104]
def sTrue : List UInt8 := [116, 114, 117, 101]
def sFalse : List UInt8 := [102, 97, 108, 115, 101]
def sExpr : List UInt8 := [101, 120, 112, 114]
def sPattern : List UInt8 := [112, 97, 116, 116, 101, 114, 110]
def sEq : List UInt8 := [61]
def sArrow : List UInt8 := [45, 62]
def sBar : List UInt8 := [124]
def sCons : List UInt8 := [58, 58]
def sOpen : List UInt8 := [40]
def sClose : List UInt8 := [41]
def sOpenL : List UInt8 := [91]
def sCloseL : List UInt8 := [93]
def sComma : List UInt8 := [44]
def sSemi : List UInt8 := [59]
def sAny : List UInt8 := [95]
def opsOf : Nat → List (List UInt8)
  | 0 => [[124, 124]]
  | 1 => [[38, 38]]
  | 2 => [[61], [60, 62], [60], [60, 61], [62], [62, 61]]
  | 3 => [[64], [94]]
  | 4 => [[58, 58]]
  | 5 => [[43], [45], [43, 46], [45, 46]]
  | _ => [[42], [47], [42, 46], [47, 46], [109, 111, 100]]
def leftOf (k : Nat) : Bool := k == 2 || k == 5 || k == 6
/-- Can an atom begin? -/
def begins (pat : Bool) (r : List Tok) : Bool :=
  (nx r).1 == 4 || (nx r).1 == 5 || (nx r).1 == 7 || (nx r).1 == 9 || (nx r).1 == (if pat then 5 else 6) || isAny [sTrue, sFalse, sOpen, sOpenL, if pat then sAny else sOpen] r

inductive Job where
  | expr
  | whole
  | level (k : Nat)
  | ops (k : Nat) (acc : T)
  | neg
  | args (acc : T)
  | atom (pat : Bool)
  | closed (list pat : Bool)
  | items (list pat : Bool)
  | pattern
  | binding
  | params
  | arm
  | arms
/-- What stands in the place of what would be too deep. -/
def deepT (what : List UInt8) (r : List Tok) : T := if (nx r).1 = 0 then missing what else node 3 [takeT r]
def deepR (r : List Tok) : List Tok := if (nx r).1 = 0 then r else takeR r
def kindOf : Bool → Bool → Nat
  | false, false => 14
  | true, false => 15
  | false, true => 17
  | true, true => 18
def betw (list : Bool) : List UInt8 := if list then sSemi else sComma
def endOf (list : Bool) : List UInt8 := if list then sCloseL else sClose
abbrev R := Option (List T × List Tok)
def P : Nat → Job → Nat → List Tok → R
  | 0, _, _, _ => none
  | n + 1, .expr, d, r => if d = 64 then some ([deepT sExpr r], deepR r) else P n .whole (d + 1) r
  | n + 1, .whole, d, r =>
    if isS sLet r then do
      let (bs, r2) ← P n .binding d (takeR r)
      let (es, r3) ← P n .expr d (needR sIn r2)
      some ([node 6 (takeT r :: bs ++ [needT sIn r2] ++ es)], r3)
    else if isS sFun r then do
      let (a, r1) ← P n (.atom true) d (takeR r)
      let (ps, r2) ← P n .params d r1
      let (es, r3) ← P n .expr d (needR sArrow r2)
      some ([node 7 (takeT r :: a ++ ps ++ [needT sArrow r2] ++ es)], r3)
    else if isS sIf r then do
      let (a, r1) ← P n .expr d (takeR r)
      let (b, r2) ← P n .expr d (needR sThen r1)
      let (c, r3) ← P n .expr d (needR sElse r2)
      some ([node 8 (takeT r :: a ++ [needT sThen r1] ++ b ++ [needT sElse r2] ++ c)], r3)
    else if isS sMatch r then do
      let (a, r1) ← P n .expr d (takeR r)
      let r2 := needR sWith r1
      let bar := if isS sBar r2 then [takeT r2] else []
      let (b, r3) ← P n .arm d (if isS sBar r2 then takeR r2 else r2)
      let (cs, r4) ← P n .arms d r3
      some ([node 9 (takeT r :: a ++ [needT sWith r1] ++ bar ++ b ++ cs)], r4)
    else P n (.level 0) d r
  | n + 1, .level k, d, r =>
    if k = 7 then P n .neg d r
    else do
      let (a, r1) ← P n (.level (k + 1)) d r
      match a with
      | [t] => P n (.ops k t) d r1
      | _ => none
  | n + 1, .ops k acc, d, r =>
    if isAny (opsOf k) r then do
      let (b, r1) ← P n (.level (if leftOf k then k + 1 else k)) d (takeR r)
      P n (.ops k (node 11 (acc :: takeT r :: b))) d r1
    else some ([acc], r)
  | n + 1, .neg, d, r =>
    if isAny [[45], [45, 46]] r then
      if d = 64 then some ([node 12 [takeT r, deepT sExpr (takeR r)]], deepR (takeR r))
      else do
        let (a, r1) ← P n .neg (d + 1) (takeR r)
        some ([node 12 (takeT r :: a)], r1)
    else do
      let (a, r1) ← P n (.atom false) d r
      match a with
      | [t] => P n (.args t) d r1
      | _ => none
  | n + 1, .args acc, d, r =>
    if begins false r then do
      let (b, r1) ← P n (.atom false) d r
      P n (.args (node 13 (acc :: b))) d r1
    else some ([acc], r)
  | n + 1, .atom pat, d, r =>
    if begins pat r then
      if (nx r).1 = 9 then some ([node 3 [takeT r]], takeR r)
      else if isS sOpen r then P n (.closed false pat) d r
      else if isS sOpenL r then P n (.closed true pat) d r
      else some ([takeT r], takeR r)
    else some ([missing (if pat then sPattern else sExpr)], r)
  | n + 1, .closed list pat, d, r =>
    let r1 := takeR r
    if isS (endOf list) r1 then some ([node (kindOf list pat) [takeT r, takeT r1]], takeR r1)
    else do
      let (a, r2) ← P n (if pat then .pattern else .expr) d r1
      let (bs, r3) ← P n (.items list pat) d r2
      some ([node (kindOf list pat) (takeT r :: a ++ bs ++ [needT (endOf list) r3])], needR (endOf list) r3)
  | n + 1, .items list pat, d, r =>
    if isS (betw list) r then do
      let (a, r1) ← P n (if pat then .pattern else .expr) d (takeR r)
      let (bs, r2) ← P n (.items list pat) d r1
      some (takeT r :: a ++ bs, r2)
    else some ([], r)
  | n + 1, .pattern, d, r =>
    if d = 64 then some ([deepT sPattern r], deepR r)
    else do
      let (a, r1) ← P n (.atom true) (d + 1) r
      if isS sCons r1 then do
        let (b, r2) ← P n .pattern (d + 1) (takeR r1)
        some ([node 16 (a ++ takeT r1 :: b)], r2)
      else some (a, r1)
  | n + 1, .binding, d, r => do
    let rc := if isS sRec r then [takeT r] else []
    let r0 := if isS sRec r then takeR r else r
    let (xs, r1) ← if (nx r0).1 = 4 then (do
        let (ps, r1) ← P n .params d (takeR r0)
        some (takeT r0 :: ps, r1))
      else P n (.atom true) d r0
    let (es, r2) ← P n .expr d (needR sEq r1)
    some (rc ++ xs ++ [needT sEq r1] ++ es, r2)
  | n + 1, .params, d, r =>
    if begins true r then do
      let (a, r1) ← P n (.atom true) d r
      let (bs, r2) ← P n .params d r1
      some (a ++ bs, r2)
    else some ([], r)
  | n + 1, .arm, d, r => do
    let (a, r1) ← P n .pattern d r
    let (es, r2) ← P n .expr d (needR sArrow r1)
    some ([node 10 (a ++ [needT sArrow r1] ++ es)], r2)
  | n + 1, .arms, d, r =>
    if isS sBar r then do
      let (a, r1) ← P n .arm d (takeR r)
      let (bs, r2) ← P n .arms d r1
      some (takeT r :: a ++ bs, r2)
    else some ([], r)
/-- Tokens up to a let. -/
def skip : Nat → List Tok → List T × List Tok
  | 0, r => ([], r)
  | n + 1, r => if (nx r).1 ≠ 0 ∧ isS sLet r = false then ((takeT r :: (skip n (takeR r)).1), (skip n (takeR r)).2) else ([], r)
/-- The declarations, and the last leaf. -/
def decls : Nat → List Tok → Option (List T)
  | 0, _ => none
  | n + 1, r =>
    if (nx r).1 = 0 then some [takeT r]
    else if isS sLet r then do
      let (bs, r1) ← P n .binding 0 (takeR r)
      let l ← decls n r1
      some (node 5 (takeT r :: bs) :: l)
    else do
      let l ← decls n (skip r.length r).2
      some (node 3 (skip r.length r).1 :: l)
def fuel (r : List Tok) : Nat := 30 * (r.length + 2)
def doc (r : List Tok) : T := node 4 ((decls (fuel r) r).getD [])
end Go.Parse
/- The parser ends: enough fuel, and how much is taken. -/
namespace Go.Parse
open Go.VM Go.Lex

theorem dropW_le (r : List Tok) : (r.dropWhile trivB).length ≤ r.length := (List.dropWhile_suffix _).length_le
theorem takeR_le (r : List Tok) : (takeR r).length ≤ r.length := by
  unfold takeR
  rw [List.length_drop]
  have := dropW_le r
  omega
theorem takeR_lt {r : List Tok} (h : (nx r).1 ≠ 0) : (takeR r).length < r.length := by
  unfold takeR
  rw [List.length_drop]
  have := dropW_le r
  unfold nx at h
  cases hd : r.dropWhile trivB with
  | nil => rw [hd] at h; exact absurd rfl h
  | cons t l => rw [hd] at this; simp at this ⊢; omega
theorem isS_nx {s : List UInt8} {r : List Tok} (h : isS s r = true) : (nx r).1 ≠ 0 := by
  intro e
  simp [isS, e] at h
theorem isAny_nx {l : List (List UInt8)} {r : List Tok} (h : isAny l r = true) : (nx r).1 ≠ 0 := by
  intro e
  simp [isAny, e] at h
theorem begins_nx {pat : Bool} {r : List Tok} (h : begins pat r = true) : (nx r).1 ≠ 0 := by
  intro e
  cases pat <;> simp [begins, isAny, e] at h
theorem needR_le (s : List UInt8) (r : List Tok) : (needR s r).length ≤ r.length := by
  unfold needR
  split
  · exact takeR_le r
  · exact Nat.le_refl _
theorem deepR_le (r : List Tok) : (deepR r).length ≤ r.length := by
  unfold deepR
  split
  · exact Nat.le_refl _
  · exact takeR_le r

def rank : Job → Nat
  | .expr => 13
  | .whole => 12
  | .level k => 11 - k
  | .ops _ _ => 0
  | .neg => 3
  | .args _ => 2
  | .atom _ => 1
  | .closed _ _ => 0
  | .items _ _ => 0
  | .pattern => 13
  | .binding => 14
  | .params => 2
  | .arm => 14
  | .arms => 0
def okJob : Job → Prop
  | .level k => k ≤ 7
  | .ops k _ => k ≤ 6
  | _ => True
def single : Job → Bool
  | .items _ _ => false
  | .binding => false
  | .params => false
  | .arms => false
  | _ => true
/-- A job takes a token first. -/
def firm : Job → List Tok → Prop
  | .atom pat, r => begins pat r = true
  | .closed _ _, r => (nx r).1 ≠ 0
  | _, _ => False
/-- What a job may be begun at. -/
def at' : Job → List Tok → Prop
  | .closed _ _, r => (nx r).1 ≠ 0
  | _, _ => True
structure Fine (job : Job) (r : List Tok) (x : R) : Prop where
  some : ∃ l r', x = some (l, r') ∧ r'.length ≤ r.length ∧ (single job = true → ∃ t, l = [t]) ∧ (firm job r → r'.length < r.length)
theorem fine_mk {job : Job} {r r' : List Tok} {l : List T} {x : R} (h : x = .some (l, r')) (h1 : r'.length ≤ r.length) (h2 : single job = true → ∃ t, l = [t]) (h3 : firm job r → r'.length < r.length) : Fine job r x := ⟨⟨l, r', h, h1, h2, h3⟩⟩
theorem P_tot : ∀ (N : Nat) (job : Job) (d : Nat) (r : List Tok), okJob job → at' job r → 16 * r.length + rank job < N → Fine job r (P N job d r) := by
  intro N
  induction N with
  | zero => intro job d r _ _ h; omega
  | succ n ih =>
    intro job d r ho ha h
    have one : ∀ {job : Job} {d : Nat} {r : List Tok}, okJob job → at' job r → 16 * r.length + rank job < n → single job = true → ∃ t r', P n job d r = some ([t], r') ∧ r'.length ≤ r.length ∧ (firm job r → r'.length < r.length) := by
      intro job d r h1 h2 h3 h4
      obtain ⟨l, r', e, k1, k2, k3⟩ := (ih job d r h1 h2 h3).some
      obtain ⟨t, rfl⟩ := k2 h4
      exact ⟨t, r', e, k1, k3⟩
    have many : ∀ {job : Job} {d : Nat} {r : List Tok}, okJob job → at' job r → 16 * r.length + rank job < n → ∃ l r', P n job d r = some (l, r') ∧ r'.length ≤ r.length := by
      intro job d r h1 h2 h3
      obtain ⟨l, r', e, k1, _, _⟩ := (ih job d r h1 h2 h3).some
      exact ⟨l, r', e, k1⟩
    cases job with
    | expr =>
      simp only [P]
      by_cases hd : d = 64
      · rw [if_pos hd]
        exact fine_mk rfl (deepR_le r) (fun _ => ⟨_, rfl⟩) (fun f => f.elim)
      · rw [if_neg hd]
        simp only [rank] at h
        obtain ⟨t, r', e, k1, _⟩ := one (job := .whole) (d := d + 1) (r := r) trivial trivial (by simp only [rank]; omega) rfl
        exact fine_mk e k1 (fun _ => ⟨_, rfl⟩) (fun f => f.elim)
    | whole =>
      simp only [rank] at h
      simp only [P]
      by_cases h1 : isS sLet r = true
      · rw [if_pos h1]
        have ht := takeR_lt (isS_nx h1)
        obtain ⟨bs, r2, e2, k2⟩ := many (job := .binding) (d := d) (r := takeR r) trivial trivial (by simp only [rank]; omega)
        have hn := needR_le sIn r2
        obtain ⟨t, r3, e3, k3, _⟩ := one (job := .expr) (d := d) (r := needR sIn r2) trivial trivial (by simp only [rank]; omega) rfl
        refine fine_mk (l := [node 6 (takeT r :: bs ++ [needT sIn r2] ++ [t])]) (r' := r3) ?_ (by omega) (fun _ => ⟨_, rfl⟩) (fun f => f.elim)
        simp only [e2, e3, bind, Option.bind]
      rw [if_neg h1]
      by_cases h2 : isS sFun r = true
      · rw [if_pos h2]
        have ht := takeR_lt (isS_nx h2)
        obtain ⟨a, r1, e1, k1, _⟩ := one (job := .atom true) (d := d) (r := takeR r) trivial trivial (by simp only [rank]; omega) rfl
        obtain ⟨ps, r2, e2, k2⟩ := many (job := .params) (d := d) (r := r1) trivial trivial (by simp only [rank]; omega)
        have hn := needR_le sArrow r2
        obtain ⟨t, r3, e3, k3, _⟩ := one (job := .expr) (d := d) (r := needR sArrow r2) trivial trivial (by simp only [rank]; omega) rfl
        refine fine_mk (l := [node 7 (takeT r :: [a] ++ ps ++ [needT sArrow r2] ++ [t])]) (r' := r3) ?_ (by omega) (fun _ => ⟨_, rfl⟩) (fun f => f.elim)
        simp only [e1, e2, e3, bind, Option.bind]
      rw [if_neg h2]
      by_cases h3 : isS sIf r = true
      · rw [if_pos h3]
        have ht := takeR_lt (isS_nx h3)
        obtain ⟨a, r1, e1, k1, _⟩ := one (job := .expr) (d := d) (r := takeR r) trivial trivial (by simp only [rank]; omega) rfl
        have hn1 := needR_le sThen r1
        obtain ⟨b, r2, e2, k2, _⟩ := one (job := .expr) (d := d) (r := needR sThen r1) trivial trivial (by simp only [rank]; omega) rfl
        have hn2 := needR_le sElse r2
        obtain ⟨c, r3, e3, k3, _⟩ := one (job := .expr) (d := d) (r := needR sElse r2) trivial trivial (by simp only [rank]; omega) rfl
        refine fine_mk (l := [node 8 (takeT r :: [a] ++ [needT sThen r1] ++ [b] ++ [needT sElse r2] ++ [c])]) (r' := r3) ?_ (by omega) (fun _ => ⟨_, rfl⟩) (fun f => f.elim)
        simp only [e1, e2, e3, bind, Option.bind]
      rw [if_neg h3]
      by_cases h4 : isS sMatch r = true
      · rw [if_pos h4]
        have ht := takeR_lt (isS_nx h4)
        obtain ⟨a, r1, e1, k1, _⟩ := one (job := .expr) (d := d) (r := takeR r) trivial trivial (by simp only [rank]; omega) rfl
        have hn1 := needR_le sWith r1
        have hb : (if isS sBar (needR sWith r1) then takeR (needR sWith r1) else needR sWith r1).length ≤ r1.length := by
          split
          · have := takeR_le (needR sWith r1); omega
          · exact hn1
        obtain ⟨b, r3, e2, k2, _⟩ := one (job := .arm) (d := d) (r := if isS sBar (needR sWith r1) then takeR (needR sWith r1) else needR sWith r1) trivial trivial (by simp only [rank]; omega) rfl
        obtain ⟨cs, r4, e3, k3⟩ := many (job := .arms) (d := d) (r := r3) trivial trivial (by simp only [rank]; omega)
        refine fine_mk (l := [node 9 (takeT r :: [a] ++ [needT sWith r1] ++ (if isS sBar (needR sWith r1) then [takeT (needR sWith r1)] else []) ++ [b] ++ cs)]) (r' := r4) ?_ (by omega) (fun _ => ⟨_, rfl⟩) (fun f => f.elim)
        simp only [e1, e2, e3, bind, Option.bind]
      rw [if_neg h4]
      obtain ⟨t, r', e, k1, _⟩ := one (job := .level 0) (d := d) (r := r) (Nat.zero_le _) trivial (by simp only [rank]; omega) rfl
      exact fine_mk e k1 (fun _ => ⟨_, rfl⟩) (fun f => f.elim)
    | level k =>
      have hk : k ≤ 7 := ho
      simp only [rank] at h
      simp only [P]
      by_cases h7 : k = 7
      · rw [if_pos h7]
        obtain ⟨t, r', e, k1, _⟩ := one (job := .neg) (d := d) (r := r) trivial trivial (by simp only [rank]; omega) rfl
        exact fine_mk e k1 (fun _ => ⟨_, rfl⟩) (fun f => f.elim)
      · rw [if_neg h7]
        obtain ⟨t, r1, e1, k1, _⟩ := one (job := .level (k + 1)) (d := d) (r := r) (show k + 1 ≤ 7 by omega) trivial (by simp only [rank]; omega) rfl
        obtain ⟨u, r2, e2, k2, _⟩ := one (job := .ops k t) (d := d) (r := r1) (show k ≤ 6 by omega) trivial (by simp only [rank]; omega) rfl
        refine fine_mk (l := [u]) (r' := r2) ?_ (by omega) (fun _ => ⟨_, rfl⟩) (fun f => f.elim)
        simp only [e1, e2, bind, Option.bind]
    | ops k acc =>
      have hk : k ≤ 6 := ho
      simp only [rank] at h
      simp only [P]
      by_cases h1 : isAny (opsOf k) r = true
      · rw [if_pos h1]
        have ht := takeR_lt (isAny_nx h1)
        obtain ⟨b, r1, e1, k1, _⟩ := one (job := .level (if leftOf k then k + 1 else k)) (d := d) (r := takeR r) (show (if leftOf k then k + 1 else k) ≤ 7 by split <;> omega) trivial (by simp only [rank]; omega) rfl
        obtain ⟨u, r2, e2, k2, _⟩ := one (job := .ops k (node 11 [acc, takeT r, b])) (d := d) (r := r1) hk trivial (by simp only [rank]; omega) rfl
        refine fine_mk (l := [u]) (r' := r2) ?_ (by omega) (fun _ => ⟨_, rfl⟩) (fun f => f.elim)
        simp only [e1, e2, bind, Option.bind]
      · rw [if_neg h1]
        exact fine_mk rfl (Nat.le_refl _) (fun _ => ⟨_, rfl⟩) (fun f => f.elim)
    | neg =>
      simp only [rank] at h
      simp only [P]
      by_cases h1 : isAny [[45], [45, 46]] r = true
      · rw [if_pos h1]
        have ht := takeR_lt (isAny_nx h1)
        by_cases hd : d = 64
        · rw [if_pos hd]
          have := deepR_le (takeR r)
          exact fine_mk rfl (by omega) (fun _ => ⟨_, rfl⟩) (fun f => f.elim)
        · rw [if_neg hd]
          obtain ⟨a, r1, e1, k1, _⟩ := one (job := .neg) (d := d + 1) (r := takeR r) trivial trivial (by simp only [rank]; omega) rfl
          refine fine_mk (l := [node 12 [takeT r, a]]) (r' := r1) ?_ (by omega) (fun _ => ⟨_, rfl⟩) (fun f => f.elim)
          simp only [e1, bind, Option.bind]
      · rw [if_neg h1]
        obtain ⟨t, r1, e1, k1, _⟩ := one (job := .atom false) (d := d) (r := r) trivial trivial (by simp only [rank]; omega) rfl
        obtain ⟨u, r2, e2, k2, _⟩ := one (job := .args t) (d := d) (r := r1) trivial trivial (by simp only [rank]; omega) rfl
        refine fine_mk (l := [u]) (r' := r2) ?_ (by omega) (fun _ => ⟨_, rfl⟩) (fun f => f.elim)
        simp only [e1, e2, bind, Option.bind]
    | args acc =>
      simp only [rank] at h
      simp only [P]
      by_cases h1 : begins false r = true
      · rw [if_pos h1]
        obtain ⟨t, r1, e1, k1, f1⟩ := one (job := .atom false) (d := d) (r := r) trivial trivial (by simp only [rank]; omega) rfl
        have ht := f1 h1
        obtain ⟨u, r2, e2, k2, _⟩ := one (job := .args (node 13 [acc, t])) (d := d) (r := r1) trivial trivial (by simp only [rank]; omega) rfl
        refine fine_mk (l := [u]) (r' := r2) ?_ (by omega) (fun _ => ⟨_, rfl⟩) (fun f => f.elim)
        simp only [e1, e2, bind, Option.bind]
      · rw [if_neg h1]
        exact fine_mk rfl (Nat.le_refl _) (fun _ => ⟨_, rfl⟩) (fun f => f.elim)
    | atom pat =>
      simp only [rank] at h
      simp only [P]
      by_cases h1 : begins pat r = true
      · rw [if_pos h1]
        have hnx := begins_nx h1
        have ht := takeR_lt hnx
        by_cases h9 : (nx r).1 = 9
        · rw [if_pos h9]
          exact fine_mk rfl (by omega) (fun _ => ⟨_, rfl⟩) (fun _ => ht)
        rw [if_neg h9]
        by_cases h2 : isS sOpen r = true
        · rw [if_pos h2]
          obtain ⟨t, r1, e1, k1, f1⟩ := one (job := .closed false pat) (d := d) (r := r) trivial hnx (by simp only [rank]; omega) rfl
          exact fine_mk e1 k1 (fun _ => ⟨_, rfl⟩) (fun _ => f1 hnx)
        rw [if_neg h2]
        by_cases h3 : isS sOpenL r = true
        · rw [if_pos h3]
          obtain ⟨t, r1, e1, k1, f1⟩ := one (job := .closed true pat) (d := d) (r := r) trivial hnx (by simp only [rank]; omega) rfl
          exact fine_mk e1 k1 (fun _ => ⟨_, rfl⟩) (fun _ => f1 hnx)
        rw [if_neg h3]
        exact fine_mk rfl (by omega) (fun _ => ⟨_, rfl⟩) (fun _ => ht)
      · rw [if_neg h1]
        exact fine_mk rfl (Nat.le_refl _) (fun _ => ⟨_, rfl⟩) (fun f => absurd f h1)
    | closed list pat =>
      have hnx : (nx r).1 ≠ 0 := ha
      have ht := takeR_lt hnx
      simp only [rank] at h
      simp only [P]
      by_cases h1 : isS (endOf list) (takeR r) = true
      · rw [if_pos h1]
        have := takeR_le (takeR r)
        exact fine_mk rfl (by omega) (fun _ => ⟨_, rfl⟩) (fun _ => by omega)
      · rw [if_neg h1]
        obtain ⟨t, r2, e1, k1, _⟩ := one (job := if pat then .pattern else .expr) (d := d) (r := takeR r) (by cases pat <;> trivial) (by cases pat <;> trivial) (by cases pat <;> simp only [rank, if_true, Bool.false_eq_true, if_false] <;> omega) (by cases pat <;> rfl)
        obtain ⟨bs, r3, e2, k2⟩ := many (job := .items list pat) (d := d) (r := r2) trivial trivial (by simp only [rank]; omega)
        have hn := needR_le (endOf list) r3
        refine fine_mk (l := [node (kindOf list pat) (takeT r :: [t] ++ bs ++ [needT (endOf list) r3])]) (r' := needR (endOf list) r3) ?_ (by omega) (fun _ => ⟨_, rfl⟩) (fun _ => by omega)
        simp only [e1, e2, bind, Option.bind]
    | items list pat =>
      simp only [rank] at h
      simp only [P]
      by_cases h1 : isS (betw list) r = true
      · rw [if_pos h1]
        have ht := takeR_lt (isS_nx h1)
        obtain ⟨t, r2, e1, k1, _⟩ := one (job := if pat then .pattern else .expr) (d := d) (r := takeR r) (by cases pat <;> trivial) (by cases pat <;> trivial) (by cases pat <;> simp only [rank, if_true, Bool.false_eq_true, if_false] <;> omega) (by cases pat <;> rfl)
        obtain ⟨bs, r3, e2, k2⟩ := many (job := .items list pat) (d := d) (r := r2) trivial trivial (by simp only [rank]; omega)
        refine fine_mk (l := takeT r :: [t] ++ bs) (r' := r3) ?_ (by omega) (fun f => by cases f) (fun f => f.elim)
        simp only [e1, e2, bind, Option.bind]
      · rw [if_neg h1]
        exact fine_mk rfl (Nat.le_refl _) (fun f => by cases f) (fun f => f.elim)
    | pattern =>
      simp only [rank] at h
      simp only [P]
      by_cases hd : d = 64
      · rw [if_pos hd]
        exact fine_mk rfl (deepR_le r) (fun _ => ⟨_, rfl⟩) (fun f => f.elim)
      · rw [if_neg hd]
        obtain ⟨a, r1, e1, k1, _⟩ := one (job := .atom true) (d := d + 1) (r := r) trivial trivial (by simp only [rank]; omega) rfl
        by_cases h1 : isS sCons r1 = true
        · have ht := takeR_lt (isS_nx h1)
          obtain ⟨b, r2, e2, k2, _⟩ := one (job := .pattern) (d := d + 1) (r := takeR r1) trivial trivial (by simp only [rank]; omega) rfl
          refine fine_mk (l := [node 16 ([a] ++ takeT r1 :: [b])]) (r' := r2) ?_ (by omega) (fun _ => ⟨_, rfl⟩) (fun f => f.elim)
          simp only [e1, e2, bind, Option.bind, if_pos h1]
        · refine fine_mk (l := [a]) (r' := r1) ?_ (by omega) (fun _ => ⟨_, rfl⟩) (fun f => f.elim)
          simp only [e1, bind, Option.bind, if_neg h1]
    | binding =>
      simp only [rank] at h
      simp only [P]
      have h0 : (if isS sRec r then takeR r else r).length ≤ r.length := by
        split
        · exact takeR_le r
        · exact Nat.le_refl _
      generalize (if isS sRec r then takeR r else r) = r0 at h0
      by_cases h4 : (nx r0).1 = 4
      · have ht := takeR_lt (show (nx r0).1 ≠ 0 by omega)
        obtain ⟨ps, r1, e1, k1⟩ := many (job := .params) (d := d) (r := takeR r0) trivial trivial (by simp only [rank]; omega)
        have hn := needR_le sEq r1
        obtain ⟨t, r2, e2, k2, _⟩ := one (job := .expr) (d := d) (r := needR sEq r1) trivial trivial (by simp only [rank]; omega) rfl
        refine fine_mk (l := (if isS sRec r then [takeT r] else []) ++ (takeT r0 :: ps) ++ [needT sEq r1] ++ [t]) (r' := r2) ?_ (by omega) (fun f => by cases f) (fun f => f.elim)
        simp only [if_pos h4, e1, e2, bind, Option.bind]
      · obtain ⟨a, r1, e1, k1, _⟩ := one (job := .atom true) (d := d) (r := r0) trivial trivial (by simp only [rank]; omega) rfl
        have hn := needR_le sEq r1
        obtain ⟨t, r2, e2, k2, _⟩ := one (job := .expr) (d := d) (r := needR sEq r1) trivial trivial (by simp only [rank]; omega) rfl
        refine fine_mk (l := (if isS sRec r then [takeT r] else []) ++ [a] ++ [needT sEq r1] ++ [t]) (r' := r2) ?_ (by omega) (fun f => by cases f) (fun f => f.elim)
        simp only [if_neg h4, e1, e2, bind, Option.bind]
    | params =>
      simp only [rank] at h
      simp only [P]
      by_cases h1 : begins true r = true
      · rw [if_pos h1]
        obtain ⟨t, r1, e1, k1, f1⟩ := one (job := .atom true) (d := d) (r := r) trivial trivial (by simp only [rank]; omega) rfl
        have ht := f1 h1
        obtain ⟨bs, r2, e2, k2⟩ := many (job := .params) (d := d) (r := r1) trivial trivial (by simp only [rank]; omega)
        refine fine_mk (l := [t] ++ bs) (r' := r2) ?_ (by omega) (fun f => by cases f) (fun f => f.elim)
        simp only [e1, e2, bind, Option.bind]
      · rw [if_neg h1]
        exact fine_mk rfl (Nat.le_refl _) (fun f => by cases f) (fun f => f.elim)
    | arm =>
      simp only [rank] at h
      simp only [P]
      obtain ⟨a, r1, e1, k1, _⟩ := one (job := .pattern) (d := d) (r := r) trivial trivial (by simp only [rank]; omega) rfl
      have hn := needR_le sArrow r1
      obtain ⟨t, r2, e2, k2, _⟩ := one (job := .expr) (d := d) (r := needR sArrow r1) trivial trivial (by simp only [rank]; omega) rfl
      refine fine_mk (l := [node 10 ([a] ++ [needT sArrow r1] ++ [t])]) (r' := r2) ?_ (by omega) (fun _ => ⟨_, rfl⟩) (fun f => f.elim)
      simp only [e1, e2, bind, Option.bind]
    | arms =>
      simp only [rank] at h
      simp only [P]
      by_cases h1 : isS sBar r = true
      · rw [if_pos h1]
        have ht := takeR_lt (isS_nx h1)
        obtain ⟨t, r1, e1, k1, _⟩ := one (job := .arm) (d := d) (r := takeR r) trivial trivial (by simp only [rank]; omega) rfl
        obtain ⟨bs, r2, e2, k2⟩ := many (job := .arms) (d := d) (r := r1) trivial trivial (by simp only [rank]; omega)
        refine fine_mk (l := takeT r :: [t] ++ bs) (r' := r2) ?_ (by omega) (fun f => by cases f) (fun f => f.elim)
        simp only [e1, e2, bind, Option.bind]
      · rw [if_neg h1]
        exact fine_mk rfl (Nat.le_refl _) (fun f => by cases f) (fun f => f.elim)
theorem skip_le : ∀ (n : Nat) (r : List Tok), (skip n r).2.length ≤ r.length
  | 0, _ => Nat.le_refl _
  | n + 1, r => by
    simp only [skip]
    split
    · have := skip_le n (takeR r)
      have := takeR_le r
      simp only; omega
    · exact Nat.le_refl _
theorem skip_lt {r : List Tok} (h0 : (nx r).1 ≠ 0) (h1 : isS sLet r = false) : (skip r.length r).2.length < r.length := by
  have ht := takeR_lt h0
  obtain ⟨n, hn⟩ : ∃ n, r.length = n + 1 := ⟨r.length - 1, by omega⟩
  rw [hn]
  simp only [skip, if_pos (And.intro h0 h1)]
  have := skip_le n (takeR r)
  omega
theorem decls_tot : ∀ (N : Nat) (r : List Tok), 17 * r.length + 16 < N → ∃ l, decls N r = some l := by
  intro N
  induction N with
  | zero => intro r h; omega
  | succ n ih =>
    intro r h
    simp only [decls]
    by_cases h0 : (nx r).1 = 0
    · rw [if_pos h0]; exact ⟨_, rfl⟩
    rw [if_neg h0]
    by_cases h1 : isS sLet r = true
    · rw [if_pos h1]
      have ht := takeR_lt h0
      obtain ⟨bs, r1, e1, k1, _, _⟩ := (P_tot n .binding 0 (takeR r) trivial trivial (by simp only [rank]; omega)).some
      obtain ⟨l, e2⟩ := ih r1 (by omega)
      exact ⟨node 5 (takeT r :: bs) :: l, by simp only [e1, e2, bind, Option.bind]⟩
    · rw [if_neg h1]
      have ht := skip_lt h0 (by simpa using h1)
      obtain ⟨l, e2⟩ := ih (skip r.length r).2 (by omega)
      exact ⟨node 3 (skip r.length r).1 :: l, by simp only [e2, bind, Option.bind]⟩
theorem doc_tot (r : List Tok) : ∃ l, decls (fuel r) r = some l ∧ doc r = node 4 l := by
  obtain ⟨l, e⟩ := decls_tot (fuel r) r (by unfold fuel; omega)
  exact ⟨l, e, by unfold doc; rw [e]; rfl⟩
end Go.Parse
/- Tokens: a token by itself, and a token before a line's end. -/
namespace Go.Lex
open Go.VM

theorem szN_same {n n' b0 b1 b2 b3 c1 c2 c3 : Nat} (h0 : szN n b0 b1 b2 b3 ≠ 0) (e1 : 1 < szN n b0 b1 b2 b3 → c1 = b1) (e2 : 2 < szN n b0 b1 b2 b3 → c2 = b2) (e3 : 3 < szN n b0 b1 b2 b3 → c3 = b3) (hl : szN n b0 b1 b2 b3 ≤ n') :
    szN n' b0 c1 c2 c3 = szN n b0 b1 b2 b3 := by
  by_cases a1 : b0 < 128
  · unfold szN; rw [if_pos a1, if_pos a1]
  by_cases a2 : 194 ≤ b0 ∧ b0 ≤ 223
  · by_cases q : n < 2 ∨ b1 < 128 ∨ 191 < b1
    · exact absurd (by unfold szN; rw [if_neg a1, if_pos a2, if_pos q]) h0
    · have e : szN n b0 b1 b2 b3 = 2 := by unfold szN; rw [if_neg a1, if_pos a2, if_neg q]
      rw [e] at e1 hl ⊢
      have := e1 (by omega)
      subst this
      unfold szN; rw [if_neg a1, if_pos a2, if_neg (by omega)]
  by_cases a3 : 224 ≤ b0 ∧ b0 ≤ 239
  · by_cases q : n < 3 ∨ b1 < 128 ∨ 191 < b1 ∨ b2 < 128 ∨ 191 < b2 ∨ (b0 = 224 ∧ b1 < 160) ∨ (b0 = 237 ∧ 159 < b1)
    · exact absurd (by unfold szN; rw [if_neg a1, if_neg a2, if_pos a3, if_pos q]) h0
    · have e : szN n b0 b1 b2 b3 = 3 := by unfold szN; rw [if_neg a1, if_neg a2, if_pos a3, if_neg q]
      rw [e] at e1 e2 hl ⊢
      have := e1 (by omega)
      have := e2 (by omega)
      subst_vars
      unfold szN; rw [if_neg a1, if_neg a2, if_pos a3, if_neg (by omega)]
  by_cases a4 : 240 ≤ b0 ∧ b0 ≤ 244
  · by_cases q : n < 4 ∨ b1 < 128 ∨ 191 < b1 ∨ b2 < 128 ∨ 191 < b2 ∨ b3 < 128 ∨ 191 < b3 ∨ (b0 = 240 ∧ b1 < 144) ∨ (b0 = 244 ∧ 143 < b1)
    · exact absurd (by unfold szN; rw [if_neg a1, if_neg a2, if_neg a3, if_pos a4, if_pos q]) h0
    · have e : szN n b0 b1 b2 b3 = 4 := by unfold szN; rw [if_neg a1, if_neg a2, if_neg a3, if_pos a4, if_neg q]
      rw [e] at e1 e2 e3 hl ⊢
      have := e1 (by omega)
      have := e2 (by omega)
      have := e3 (by omega)
      subst_vars
      unfold szN; rw [if_neg a1, if_neg a2, if_neg a3, if_pos a4, if_neg (by omega)]
  · exact absurd (by unfold szN; rw [if_neg a1, if_neg a2, if_neg a3, if_neg a4]) h0
theorem szN_high {n b0 b1 b2 b3 : Nat} (h : 2 ≤ szN n b0 b1 b2 b3) : 128 ≤ b0 ∧ (128 ≤ b1) ∧ (2 < szN n b0 b1 b2 b3 → 128 ≤ b2) ∧ (3 < szN n b0 b1 b2 b3 → 128 ≤ b3) := by
  unfold szN at *
  by_cases a1 : b0 < 128
  · rw [if_pos a1] at h; omega
  rw [if_neg a1] at *
  by_cases a2 : 194 ≤ b0 ∧ b0 ≤ 223
  · rw [if_pos a2] at *
    by_cases q : n < 2 ∨ b1 < 128 ∨ 191 < b1
    · rw [if_pos q] at h; omega
    · rw [if_neg q] at *; omega
  rw [if_neg a2] at *
  by_cases a3 : 224 ≤ b0 ∧ b0 ≤ 239
  · rw [if_pos a3] at *
    by_cases q : n < 3 ∨ b1 < 128 ∨ 191 < b1 ∨ b2 < 128 ∨ 191 < b2 ∨ (b0 = 224 ∧ b1 < 160) ∨ (b0 = 237 ∧ 159 < b1)
    · rw [if_pos q] at h; omega
    · rw [if_neg q] at *; omega
  rw [if_neg a3] at *
  by_cases a4 : 240 ≤ b0 ∧ b0 ≤ 244
  · rw [if_pos a4] at *
    by_cases q : n < 4 ∨ b1 < 128 ∨ 191 < b1 ∨ b2 < 128 ∨ 191 < b2 ∨ b3 < 128 ∨ 191 < b3 ∨ (b0 = 240 ∧ b1 < 144) ∨ (b0 = 244 ∧ 143 < b1)
    · rw [if_pos q] at h; omega
    · rw [if_neg q] at *; omega
  · rw [if_neg a4] at h; omega
theorem szN_four (n b0 b1 b2 b3 : Nat) : szN n b0 b1 b2 b3 ≤ 4 := by
  unfold szN
  repeat' split
  all_goals omega
theorem szL_same {s t : List UInt8} (h : szL s ≠ 0) (he : ∀ j, j < szL s → t.getD j 0 = s.getD j 0) (hl : szL s ≤ t.length) : szL t = szL s := by
  have h0 := he 0 (by omega)
  unfold szL at h he hl ⊢
  rw [h0]
  exact szN_same h (fun k => by rw [he 1 k]) (fun k => by rw [he 2 k]) (fun k => by rw [he 3 k]) hl
theorem getD_take {s : List UInt8} {n j : Nat} (h : j < n) : (s.take n).getD j 0 = s.getD j 0 := by
  rw [List.getD_eq_getElem?_getD, List.getD_eq_getElem?_getD, List.getElem?_take, if_pos h]
theorem getD_drop (s : List UInt8) (n j : Nat) : (s.drop n).getD j 0 = s.getD (n + j) 0 := by
  rw [List.getD_eq_getElem?_getD, List.getD_eq_getElem?_getD, List.getElem?_drop]
theorem getD_app {s x : List UInt8} {j : Nat} (h : j < s.length) : (s ++ x).getD j 0 = s.getD j 0 := by
  rw [List.getD_eq_getElem?_getD, List.getD_eq_getElem?_getD, List.getElem?_append_left h]
theorem szL_take {s : List UInt8} (hne : s ≠ []) (h : szL s ≠ 0) {n : Nat} (hn : szL s ≤ n) : szL (s.take n) = szL s :=
  szL_same h (fun j hj => getD_take (by omega)) (by rw [List.length_take]; have := szL_le hne; omega)
theorem szL_app {s : List UInt8} (hne : s ≠ []) (h : szL s ≠ 0) (x : List UInt8) : szL (s ++ x) = szL s := by
  have := szL_le hne
  exact szL_same h (fun j hj => getD_app (by omega)) (by rw [List.length_append]; omega)
theorem szL_high {s : List UInt8} (h : 2 ≤ szL s) {j : Nat} (hj : j < szL s) : 128 ≤ (s.getD j 0).toNat := by
  have h4 := szN_four s.length (s.getD 0 0).toNat (s.getD 1 0).toNat (s.getD 2 0).toNat (s.getD 3 0).toNat
  unfold szL at h hj
  have := szN_high h
  have hj4 : j < 4 := by omega
  match j, hj4 with
  | 0, _ => exact this.1
  | 1, _ => exact this.2.1
  | 2, _ => exact this.2.2.1 hj
  | 3, _ => exact this.2.2.2 hj
theorem valid_sz {s : List UInt8} (hne : s ≠ []) (h : validS s = true) : szL s ≠ 0 ∧ validS (s.drop (szL s)) = true := by
  rw [validS_step hne] at h
  by_cases z : szL s = 0
  · rw [if_pos z] at h; cases h
  · rw [if_neg z] at h; exact ⟨z, h⟩
theorem valid_app : ∀ (n : Nat) (a b : List UInt8), a.length ≤ n → validS a = true → validS (a ++ b) = validS b
  | n, [], b, _, _ => rfl
  | 0, _ :: _, _, h, _ => by simp at h
  | n + 1, c :: a, b, h, hv => by
    obtain ⟨z, hz⟩ := valid_sz (s := c :: a) (by simp) hv
    have hle := szL_le (l := c :: a) (by simp)
    have hz2 := szL_app (s := c :: a) (by simp) z b
    rw [validS_step (l := c :: a ++ b) (by simp), hz2, if_neg z, List.drop_append_of_le_length hle]
    exact valid_app n _ b (by rw [List.length_drop]; simp at h ⊢; omega) hz
/-- A place between two characters. -/
def Bd (s : List UInt8) (n : Nat) : Prop := n = 0 ∨ (s.getD n 0).toNat < 128 ∨ (s.getD (n - 1) 0).toNat < 128
theorem valid_split : ∀ (m : Nat) (s : List UInt8) (n : Nat), s.length ≤ m → validS s = true → n ≤ s.length → Bd s n → validS (s.take n) = true ∧ validS (s.drop n) = true
  | m, s, 0, _, hv, _, _ => ⟨rfl, hv⟩
  | m, [], n + 1, _, _, h, _ => by simp at h
  | 0, _ :: _, _, h, _, _, _ => by simp at h
  | m + 1, c :: l, n + 1, hm, hv, hn, hb => by
    obtain ⟨z, hz⟩ := valid_sz (s := c :: l) (by simp) hv
    have hle := szL_le (l := c :: l) (by simp)
    by_cases hzn : szL (c :: l) ≤ n + 1
    · have hlen : ((c :: l).drop (szL (c :: l))).length = (c :: l).length - szL (c :: l) := List.length_drop
      have hb2 : Bd ((c :: l).drop (szL (c :: l))) (n + 1 - szL (c :: l)) := by
        rcases hb with hb | hb | hb
        · omega
        · exact .inr (.inl (by rw [getD_drop, show szL (c :: l) + (n + 1 - szL (c :: l)) = n + 1 by omega]; exact hb))
        · by_cases e : n + 1 - szL (c :: l) = 0
          · exact .inl e
          · exact .inr (.inr (by rw [getD_drop, show szL (c :: l) + (n + 1 - szL (c :: l) - 1) = n + 1 - 1 by omega]; exact hb))
      have ih := valid_split m ((c :: l).drop (szL (c :: l))) (n + 1 - szL (c :: l)) (by simp at hm hlen ⊢; omega) hz (by omega) hb2
      have h1 := szL_take (s := c :: l) (by simp) z hzn
      have hne : (c :: l).take (n + 1) ≠ [] := by simp
      constructor
      · rw [validS_step hne, h1, if_neg z, List.drop_take]
        exact ih.1
      · have e : (c :: l).drop (n + 1) = ((c :: l).drop (szL (c :: l))).drop (n + 1 - szL (c :: l)) := by
          rw [List.drop_drop]; congr 1; omega
        rw [e]; exact ih.2
    · exfalso
      have k1 := szL_high (s := c :: l) (by omega) (j := n + 1) (by omega)
      have k2 := szL_high (s := c :: l) (by omega) (j := n + 1 - 1) (by omega)
      rcases hb with hb | hb | hb <;> omega
/-- All of a text's first bytes are ASCII. -/
def Asc (s : List UInt8) (n : Nat) : Prop := ∀ j, j < n → (s.getD j 0).toNat < 128
theorem asc_bd {s : List UInt8} {n : Nat} (h : Asc s n) : Bd s n := by
  cases n with
  | zero => exact .inl rfl
  | succ n => exact .inr (.inr (h n (Nat.lt_succ_self n)))
theorem asc_add {s : List UInt8} {a b : Nat} (h : Asc s a) (k : Asc (s.drop a) b) : Asc s (a + b) := by
  intro j hj
  by_cases q : j < a
  · exact h j q
  · have := k (j - a) (by omega)
    rw [getD_drop, show a + (j - a) = j by omega] at this
    exact this
theorem asc_wh {p : UInt8 → Bool} (hp : ∀ b, p b = true → b.toNat < 128) : ∀ s : List UInt8, Asc s (wh p s)
  | [] => fun j hj => absurd hj (Nat.not_lt_zero j)
  | c :: l => by
    rw [wh_cons]
    intro j hj
    cases hc : p c with
    | false => rw [hc] at hj; simp at hj
    | true =>
      rw [hc, if_pos rfl] at hj
      cases j with
      | zero => exact hp c hc
      | succ j => exact asc_wh hp l j (by omega)
theorem all_b {p : UInt8 → Bool} (h : ((List.range 256).all fun n => p (UInt8.ofNat n)) = true) (b : UInt8) : p b = true := by
  have := List.all_eq_true.1 h b.toNat (List.mem_range.2 (UInt8.toNat_lt b))
  simpa using this
theorem asc_of {p : UInt8 → Bool} (h : ((List.range 256).all fun n => !(p (UInt8.ofNat n)) || Nat.blt (UInt8.ofNat n).toNat 128) = true) (b : UInt8) (hb : p b = true) : b.toNat < 128 := by
  have := all_b (p := fun b => !(p b) || Nat.blt b.toNat 128) h b
  simp only [hb, Bool.not_true, Bool.false_or] at this
  exact Nat.le_of_ble_eq_true this
theorem asc_blank (b : UInt8) (hb : isBlank b = true) : b.toNat < 128 := asc_of (by decide +kernel) b hb
theorem asc_beh (b : UInt8) (hb : isBeh b = true) : b.toNat < 128 := asc_of (by decide +kernel) b hb
theorem asc_dig (b : UInt8) (hb : isDig b = true) : b.toNat < 128 := asc_of (by decide +kernel) b hb
theorem asc_one (b : UInt8) (hb : isOne b = true) : b.toNat < 128 := asc_of (by decide +kernel) b hb
theorem asc_sgn (b : UInt8) (hb : isSgn b = true) : b.toNat < 128 := asc_of (by decide +kernel) b hb
theorem asc_expo (s : List UInt8) : Asc s (expo s).1 := by
  unfold expo
  cases s with
  | nil => exact fun j hj => absurd hj (Nat.not_lt_zero j)
  | cons e l =>
    dsimp only
    split
    · rename_i he
      split
      · exact fun j hj => absurd hj (Nat.not_lt_zero j)
      · dsimp only
        have h1 : Asc (e :: l) 1 := by
          intro j hj
          have : j = 0 := by omega
          subst this
          rcases he with rfl | rfl <;> exact Nat.le_of_ble_eq_true rfl
        have h2 : Asc l (sgn l) := by
          cases l with
          | nil => exact fun j hj => absurd hj (Nat.not_lt_zero j)
          | cons d r =>
            intro j hj
            simp only [sgn] at hj
            cases hd : isSgn d with
            | false => rw [hd] at hj; simp at hj
            | true =>
              rw [hd, if_pos rfl] at hj
              have : j = 0 := by omega
              subst this
              exact asc_sgn d hd
        have h3 := asc_wh asc_dig (l.drop (sgn l))
        refine asc_add (asc_add h1 h2) ?_
        rw [show (e :: l).drop (1 + sgn l) = l.drop (sgn l) by rw [Nat.add_comm]; rfl]
        exact h3
    · exact fun j hj => absurd hj (Nat.not_lt_zero j)
theorem head_getD {s : List UInt8} {c : UInt8} (h : s.head? = some c) : s.getD 0 0 = c := by
  cases s with
  | nil => cases h
  | cons d l => cases h; rfl
theorem asc_number (s : List UInt8) : Asc s (number s).2 := by
  have h1 := asc_wh asc_dig s
  unfold number
  dsimp only
  split
  · rename_i h46
    refine asc_add (asc_add (asc_add h1 ?_) ?_) ?_
    · intro j hj
      have : j = 0 := by omega
      subst this
      rw [head_getD h46]; decide
    · exact asc_wh asc_dig _
    · exact asc_expo _
  · exact h1
theorem rem_last : ∀ (s : List UInt8) (d n : Nat), rem s d = some n → s.getD (n - 1) 0 = 41
  | [], _, _, h => by simp [rem] at h
  | [_], _, _, h => by simp [rem] at h
  | a :: b :: l, d, n, h => by
    simp only [rem] at h
    split at h
    · obtain ⟨m, hm, rfl⟩ := Option.map_eq_some_iff.1 h
      have h1 := rem_le l (d + 1) m hm
      have := rem_last l (d + 1) m hm
      rw [show m + 2 - 1 = (m - 1) + 2 by omega]
      exact this
    · split at h
      · rename_i hab
        split at h
        · cases h; exact hab.2
        · obtain ⟨m, hm, rfl⟩ := Option.map_eq_some_iff.1 h
          have h1 := rem_le l (d - 1) m hm
          have := rem_last l (d - 1) m hm
          rw [show m + 2 - 1 = (m - 1) + 2 by omega]
          exact this
      · obtain ⟨m, hm, rfl⟩ := Option.map_eq_some_iff.1 h
        have h1 := rem_le (b :: l) d m hm
        have := rem_last (b :: l) d m hm
        rw [show m + 1 - 1 = (m - 1) + 1 by omega]
        exact this
theorem badT_end : ∀ (s : List UInt8), (s.getD (badT s) 0).toNat < 128 ∨ (1 ≤ badT s ∧ s.getD (badT s - 1) 0 = 34)
  | [] => .inl (by decide)
  | c :: l => by
    simp only [badT]
    split
    · rename_i h; subst h; exact .inl (Nat.le_of_ble_eq_true rfl)
    · split
      · rename_i h; subst h; exact .inr ⟨Nat.le_refl _, rfl⟩
      · rcases badT_end l with h | ⟨h1, h2⟩
        · exact .inl h
        · exact .inr ⟨by omega, by rw [show badT l + 1 - 1 = (badT l - 1) + 1 by omega]; exact h2⟩
theorem txt_end : ∀ (s : List UInt8), (s.getD (txt s).2 0).toNat < 128 ∨ (1 ≤ (txt s).2 ∧ s.getD ((txt s).2 - 1) 0 = 34)
  | [] => .inl (by decide)
  | [c] => by
    simp only [txt]
    split
    · rename_i h; subst h; exact .inl (Nat.le_of_ble_eq_true rfl)
    · split
      · rename_i h; subst h; exact .inr ⟨Nat.le_refl _, rfl⟩
      · exact .inl (Nat.le_of_ble_eq_true rfl)
  | c :: d :: l => by
    simp only [txt]
    split
    · rename_i h; subst h; exact .inl (Nat.le_of_ble_eq_true rfl)
    · split
      · rename_i h; subst h; exact .inr ⟨Nat.le_refl _, rfl⟩
      · split
        · split
          · rcases txt_end l with h | ⟨h1, h2⟩
            · exact .inl h
            · refine .inr ⟨by dsimp only; omega, ?_⟩
              dsimp only
              rw [show (txt l).2 + 2 - 1 = ((txt l).2 - 1) + 2 by omega]; exact h2
          · rcases badT_end (d :: l) with h | ⟨h1, h2⟩
            · exact .inl h
            · refine .inr ⟨by dsimp only; omega, ?_⟩
              dsimp only
              rw [show badT (d :: l) + 1 - 1 = (badT (d :: l) - 1) + 1 by omega]; exact h2
        · rcases txt_end (d :: l) with h | ⟨h1, h2⟩
          · exact .inl h
          · refine .inr ⟨by dsimp only; omega, ?_⟩
            dsimp only
            rw [show (txt (d :: l)).2 + 1 - 1 = ((txt (d :: l)).2 - 1) + 1 by omega]; exact h2
/-- A token ends between two characters. -/
theorem cut_bd {s : List UInt8} (hne : s ≠ []) : Bd s (cut s).2 ∨ (cut s).2 = if szL s = 0 then 1 else szL s := by
  cases s with
  | nil => exact absurd rfl hne
  | cons c l =>
    unfold cut
    dsimp only
    split
    · exact .inl (asc_bd (asc_wh asc_blank _))
    split
    · cases hr : rem (List.drop 2 (c :: l)) 1 with
      | some n =>
        have h1 := rem_le _ _ _ hr
        have := rem_last _ _ _ hr
        rw [getD_drop] at this
        refine .inl (.inr (.inr ?_))
        dsimp only
        rw [show n + 2 - 1 = 2 + (n - 1) by omega, this]; decide
      | none =>
        refine .inl (.inr (.inl ?_))
        dsimp only
        rw [List.getD_eq_getElem?_getD, List.getElem?_eq_none (Nat.le_refl _)]; decide
    split
    · exact .inl (asc_bd (asc_wh asc_beh _))
    split
    · exact .inl (asc_bd (asc_number _))
    split
    · rcases txt_end l with h | ⟨h1, h2⟩
      · exact .inl (.inr (.inl h))
      · refine .inl (.inr (.inr ?_))
        dsimp only
        rw [show (txt l).2 + 1 - 1 = ((txt l).2 - 1) + 1 by omega]
        have h2 : (c :: l).getD ((txt l).2 - 1 + 1) 0 = 34 := h2
        rw [h2]; decide
    split
    · rename_i h2
      refine .inl (.inr (.inr ?_))
      have hm : (c :: l).take 2 ∈ twos := List.contains_iff_mem.1 h2
      have e : (c :: l).getD (2 - 1) 0 = ((c :: l).take 2).getD 1 0 := (getD_take (by omega)).symm
      dsimp only
      rw [e]
      generalize (c :: l).take 2 = w at hm
      simp only [twos, List.mem_cons, List.not_mem_nil, or_false] at hm
      rcases hm with rfl | rfl | rfl | rfl | rfl | rfl | rfl | rfl | rfl | rfl | rfl <;> decide
    split
    · rename_i h1
      exact .inl (.inr (.inr (asc_one c h1)))
    · exact .inr rfl
theorem cut_valid {s : List UInt8} (hne : s ≠ []) (hv : validS s = true) : validS (s.take (cut s).2) = true ∧ validS (s.drop (cut s).2) = true := by
  have hc := cut_le hne
  rcases cut_bd hne with h | h
  · exact valid_split _ s _ (Nat.le_refl _) hv hc.2 h
  · obtain ⟨z, hz⟩ := valid_sz hne hv
    rw [if_neg z] at h
    rw [h]
    refine ⟨?_, hz⟩
    have hne2 : s.take (szL s) ≠ [] := by
      intro e
      rw [List.take_eq_nil_iff] at e
      rcases e with e | e
      · exact z e
      · exact hne e
    have hl := szL_le hne
    rw [validS_step hne2, szL_take hne z (Nat.le_refl _), if_neg z, List.drop_of_length_le (by rw [List.length_take]; omega)]
    rfl
end Go.Lex
/- Tokens: a token by itself is that token; a line's end behind one. -/
namespace Go.Lex
open Go.VM

theorem rem_takeN : ∀ (s : List UInt8) (d n : Nat), rem s d = some n → rem (s.take n) d = some n
  | [], _, _, h => by simp [rem] at h
  | [_], _, _, h => by simp [rem] at h
  | a :: b :: l, d, n, h => by
    simp only [rem] at h
    split at h
    · rename_i c1
      obtain ⟨m, hm, rfl⟩ := Option.map_eq_some_iff.1 h
      show rem (a :: b :: l.take m) d = _
      simp only [rem, if_pos c1, rem_takeN l (d + 1) m hm]
      rfl
    · rename_i c1
      split at h
      · rename_i c2
        split at h
        · rename_i c3
          cases h
          show rem [a, b] d = _
          simp only [rem, if_neg c1, if_pos c2, if_pos c3]
        · rename_i c3
          obtain ⟨m, hm, rfl⟩ := Option.map_eq_some_iff.1 h
          show rem (a :: b :: l.take m) d = _
          simp only [rem, if_neg c1, if_pos c2, if_neg c3, rem_takeN l (d - 1) m hm]
          rfl
      · rename_i c2
        obtain ⟨m, hm, rfl⟩ := Option.map_eq_some_iff.1 h
        have h2 := (rem_le (b :: l) d m hm).1
        have ih := rem_takeN (b :: l) d m hm
        obtain ⟨k, rfl⟩ : ∃ k, m = k + 1 := ⟨m - 1, by omega⟩
        have ih : rem (b :: l.take k) d = some (k + 1) := ih
        show rem (a :: b :: l.take k) d = _
        simp only [rem, if_neg c1, if_neg c2, ih]
        rfl
theorem rem_app (x : List UInt8) : ∀ (s : List UInt8) (d n : Nat), rem s d = some n → rem (s ++ x) d = some n
  | [], _, _, h => by simp [rem] at h
  | [_], _, _, h => by simp [rem] at h
  | a :: b :: l, d, n, h => by
    simp only [rem] at h
    show rem (a :: b :: (l ++ x)) d = _
    split at h
    · rename_i c1
      obtain ⟨m, hm, rfl⟩ := Option.map_eq_some_iff.1 h
      simp only [rem, if_pos c1, rem_app x l (d + 1) m hm]
      rfl
    · rename_i c1
      split at h
      · rename_i c2
        split at h
        · rename_i c3
          cases h
          simp only [rem, if_neg c1, if_pos c2, if_pos c3]
        · rename_i c3
          obtain ⟨m, hm, rfl⟩ := Option.map_eq_some_iff.1 h
          simp only [rem, if_neg c1, if_pos c2, if_neg c3, rem_app x l (d - 1) m hm]
          rfl
      · rename_i c2
        obtain ⟨m, hm, rfl⟩ := Option.map_eq_some_iff.1 h
        have ih : rem (b :: (l ++ x)) d = some m := rem_app x (b :: l) d m hm
        simp only [rem, if_neg c1, if_neg c2, ih]
        rfl
theorem number_eq (s : List UInt8) : number s = if (s.drop (wh isDig s)).head? = some 46 then (if wh isDig s + wh isDig (s.drop (wh isDig s + 1)) > 15 ∨ (expo (s.drop (wh isDig s + 1 + wh isDig (s.drop (wh isDig s + 1))))).2 - (wh isDig (s.drop (wh isDig s + 1)) : Int) < -22 ∨ (expo (s.drop (wh isDig s + 1 + wh isDig (s.drop (wh isDig s + 1))))).2 - (wh isDig (s.drop (wh isDig s + 1)) : Int) > 22 then 9 else 6, wh isDig s + 1 + wh isDig (s.drop (wh isDig s + 1)) + (expo (s.drop (wh isDig s + 1 + wh isDig (s.drop (wh isDig s + 1))))).1) else (5, wh isDig s) := rfl
theorem badT_line (r : List UInt8) : ∀ s : List UInt8, badT (s ++ 10 :: r) = badT s
  | [] => by
    show badT (10 :: r) = 0
    simp [badT]
  | c :: l => by
    show badT (c :: (l ++ 10 :: r)) = _
    simp only [badT, badT_line r l]
theorem txt_one {c : UInt8} (h1 : c ≠ 10) (h2 : c ≠ 34) : txt [c] = (9, 1) := by simp only [txt, if_neg h1, if_neg h2]
theorem txt_line (r : List UInt8) : ∀ s : List UInt8, txt (s ++ 10 :: r) = txt s
  | [] => by
    show txt (10 :: r) = (9, 0)
    cases r with
    | nil => rfl
    | cons d r => simp only [txt, if_true]
  | [c] => by
    show txt (c :: 10 :: r) = _
    by_cases h1 : c = 10
    · subst h1; simp only [txt, if_true]
    by_cases h2 : c = 34
    · simp only [txt, if_neg h1, if_pos h2]
    rw [txt_one h1 h2]
    by_cases h3 : c = 92
    · simp only [txt, if_neg h1, if_neg h2, if_pos h3, show isEsc 10 = false from rfl, Bool.false_eq_true, if_false]
      simp [badT]
    · have ih := txt_line r []
      have ih : txt (10 :: r) = (9, 0) := ih
      simp only [txt, if_neg h1, if_neg h2, if_neg h3, ih]
  | c :: d :: l => by
    have ih1 := txt_line r l
    have ih2 : txt (d :: (l ++ 10 :: r)) = txt (d :: l) := txt_line r (d :: l)
    have ih3 : badT (d :: (l ++ 10 :: r)) = badT (d :: l) := badT_line r (d :: l)
    show txt (c :: d :: (l ++ 10 :: r)) = _
    simp only [txt, ih1, ih2, ih3]
end Go.Lex
/- Tokens: cutting a token by itself, and before a line's end; what stands behind a token. -/
namespace Go.Lex
open Go.VM

def cutR (c : UInt8) (l s : List UInt8) : Nat × Nat :=
  if isBlank c then (1, wh isBlank s)
  else if s.take 2 = [40, 42] then (match rem (s.drop 2) 1 with | some n => (2, n + 2) | none => (9, s.length))
  else if isLow c then (nameK (s.takeWhile isBeh), wh isBeh s)
  else if isDig c then number s
  else if c = 34 then ((txt l).1, (txt l).2 + 1)
  else if twos.contains (s.take 2) then (8, 2)
  else if isOne c then (8, 1)
  else (9, if szL s = 0 then 1 else szL s)
theorem cut_cons (c : UInt8) (l : List UInt8) : cut (c :: l) = cutR c l (c :: l) := rfl
/-- What stands behind so many tokens. -/
def behind (s : List UInt8) : Nat → List UInt8
  | 0 => s
  | n + 1 => (behind s n).drop (cut (behind s n)).2
theorem tokens_join : ∀ (n : Nat) (s : List UInt8), s.length ≤ n → (((tokens s).map (·.2)).flatten) = s
  | n, [], _ => rfl
  | 0, _ :: _, h => by simp at h
  | n + 1, c :: l, h => by
    have hc := cut_le (s := c :: l) (by simp)
    rw [tokens_cons (by simp), List.map_cons, List.flatten_cons, tokens_join n _ (by rw [List.length_drop]; simp at h ⊢; omega), List.take_append_drop]
end Go.Lex
/- Tokens: a token looks at most three bytes further. -/
namespace Go.Lex
open Go.VM

theorem wh_app (f : UInt8 → Bool) : ∀ (p y : List UInt8), wh f (p ++ y) = if wh f p = p.length then p.length + wh f y else wh f p
  | [], y => by simp [wh]
  | c :: p, y => by
    rw [List.cons_append, wh_cons, wh_cons, wh_app f p y]
    cases f c with
    | false =>
      rw [if_neg (by simp), if_neg (by simp), if_neg (by simp)]
    | true =>
      rw [if_pos rfl, if_pos rfl]
      by_cases h : wh f p = p.length
      · rw [if_pos h, if_pos (by rw [h]; rfl)]; simp; omega
      · rw [if_neg h, if_neg (by simp; omega)]
theorem rem_pre {p y y' : List UInt8} {d m : Nat} (h : rem (p ++ y) d = some m) (hm : m ≤ p.length) : rem (p ++ y') d = some m := by
  have h1 := rem_takeN _ _ _ h
  rw [List.take_append_of_le_length hm] at h1
  have h2 := rem_app (p.drop m ++ y') _ _ _ h1
  rw [← List.append_assoc, List.take_append_drop] at h2
  exact h2
end Go.Lex
/- Tokens again, behind an edit, as plain functions. -/
namespace Go.Lex
open Go.VM

def bytesL (l : List (Nat × List UInt8)) : List UInt8 := (l.map (·.2)).flatten
/-- How many tokens end three bytes ahead of so many. -/
def keeps : Nat → List (Nat × List UInt8) → Nat
  | _, [] => 0
  | r, p :: l => if p.2.length + 2 < r then keeps (r - p.2.length) l + 1 else 0
theorem bytesL_cons (p : Nat × List UInt8) (l : List (Nat × List UInt8)) : bytesL (p :: l) = p.2 ++ bytesL l := rfl
/-- How many things at the beginnings of two rows are the same. -/
def alike : List (Nat × List UInt8) → List (Nat × List UInt8) → Nat
  | a :: l, b :: m => if a = b then alike l m + 1 else 0
  | _, _ => 0
end Go.Lex
/- Nothing is lost; what is in order has nothing missing. -/
set_option linter.unusedSimpArgs false
namespace Go.Parse
open Go.VM Go.Lex

theorem bind_some {α β : Type} {x : Option α} {f : α → Option β} {b : β} (h : (x >>= f) = some b) : ∃ a, x = some a ∧ f a = some b := by
  cases x with
  | none => cases h
  | some a => exact ⟨a, rfl, h⟩
theorem kindOf_ne (a b : Bool) : kindOf a b ≠ 1 := by cases a <;> cases b <;> decide
/-- What stays true of what stands behind. -/
theorem P_inv {Q : List Tok → Prop} (hQ : ∀ r, Q r → Q (takeR r)) : ∀ (N : Nat) (job : Job) (d : Nat) (r : List Tok) (l : List T) (r' : List Tok), P N job d r = some (l, r') → Q r → Q r' := by
  have hn : ∀ s r, Q r → Q (needR s r) := fun s r h => by
    unfold needR
    split
    · exact hQ r h
    · exact h
  have hd : ∀ r, Q r → Q (deepR r) := fun r h => by
    unfold deepR
    split
    · exact h
    · exact hQ r h
  intro N
  induction N with
  | zero => intro job d r l r' h; cases h
  | succ n ih =>
    intro job d r l r' h q
    cases job with
    | expr =>
      simp only [P] at h
      split at h
      · cases h; exact hd _ q
      · exact ih _ _ _ _ _ h q
    | whole =>
      simp only [P] at h
      split at h
      · obtain ⟨⟨bs, r2⟩, e1, h⟩ := bind_some h
        obtain ⟨⟨es, r3⟩, e2, h⟩ := bind_some h
        cases h
        exact ih _ _ _ _ _ e2 (hn _ _ (ih _ _ _ _ _ e1 (hQ _ q)))
      split at h
      · obtain ⟨⟨a, r1⟩, e1, h⟩ := bind_some h
        obtain ⟨⟨ps, r2⟩, e2, h⟩ := bind_some h
        obtain ⟨⟨es, r3⟩, e3, h⟩ := bind_some h
        cases h
        exact ih _ _ _ _ _ e3 (hn _ _ (ih _ _ _ _ _ e2 (ih _ _ _ _ _ e1 (hQ _ q))))
      split at h
      · obtain ⟨⟨a, r1⟩, e1, h⟩ := bind_some h
        obtain ⟨⟨b, r2⟩, e2, h⟩ := bind_some h
        obtain ⟨⟨c, r3⟩, e3, h⟩ := bind_some h
        cases h
        exact ih _ _ _ _ _ e3 (hn _ _ (ih _ _ _ _ _ e2 (hn _ _ (ih _ _ _ _ _ e1 (hQ _ q)))))
      split at h
      · obtain ⟨⟨a, r1⟩, e1, h⟩ := bind_some h
        obtain ⟨⟨b, r3⟩, e2, h⟩ := bind_some h
        obtain ⟨⟨cs, r4⟩, e3, h⟩ := bind_some h
        cases h
        have k1 := hn sWith _ (ih _ _ _ _ _ e1 (hQ _ q))
        refine ih _ _ _ _ _ e3 (ih _ _ _ _ _ e2 ?_)
        dsimp only
        split
        · exact hQ _ k1
        · exact k1
      · exact ih _ _ _ _ _ h q
    | level k =>
      simp only [P] at h
      split at h
      · exact ih _ _ _ _ _ h q
      · obtain ⟨⟨a, r1⟩, e1, h⟩ := bind_some h
        dsimp only at h
        split at h
        · exact ih _ _ _ _ _ h (ih _ _ _ _ _ e1 q)
        · cases h
    | ops k acc =>
      simp only [P] at h
      split at h
      · obtain ⟨⟨b, r1⟩, e1, h⟩ := bind_some h
        exact ih _ _ _ _ _ h (ih _ _ _ _ _ e1 (hQ _ q))
      · cases h; exact q
    | neg =>
      simp only [P] at h
      split at h
      · split at h
        · cases h; exact hd _ (hQ _ q)
        · obtain ⟨⟨a, r1⟩, e1, h⟩ := bind_some h
          cases h
          exact ih _ _ _ _ _ e1 (hQ _ q)
      · obtain ⟨⟨a, r1⟩, e1, h⟩ := bind_some h
        dsimp only at h
        split at h
        · exact ih _ _ _ _ _ h (ih _ _ _ _ _ e1 q)
        · cases h
    | args acc =>
      simp only [P] at h
      split at h
      · obtain ⟨⟨b, r1⟩, e1, h⟩ := bind_some h
        exact ih _ _ _ _ _ h (ih _ _ _ _ _ e1 q)
      · cases h; exact q
    | atom pat =>
      simp only [P] at h
      split at h
      · split at h
        · cases h; exact hQ _ q
        split at h
        · exact ih _ _ _ _ _ h q
        split at h
        · exact ih _ _ _ _ _ h q
        · cases h; exact hQ _ q
      · cases h; exact q
    | closed list pat =>
      simp only [P] at h
      split at h
      · cases h; exact hQ _ (hQ _ q)
      · obtain ⟨⟨a, r2⟩, e1, h⟩ := bind_some h
        obtain ⟨⟨bs, r3⟩, e2, h⟩ := bind_some h
        cases h
        exact hn _ _ (ih _ _ _ _ _ e2 (ih _ _ _ _ _ e1 (hQ _ q)))
    | items list pat =>
      simp only [P] at h
      split at h
      · obtain ⟨⟨a, r2⟩, e1, h⟩ := bind_some h
        obtain ⟨⟨bs, r3⟩, e2, h⟩ := bind_some h
        cases h
        exact ih _ _ _ _ _ e2 (ih _ _ _ _ _ e1 (hQ _ q))
      · cases h; exact q
    | pattern =>
      simp only [P] at h
      split at h
      · cases h; exact hd _ q
      · obtain ⟨⟨a, r1⟩, e1, h⟩ := bind_some h
        have k1 := ih _ _ _ _ _ e1 q
        dsimp only at h
        split at h
        · obtain ⟨⟨b, r2⟩, e2, h⟩ := bind_some h
          cases h
          exact ih _ _ _ _ _ e2 (hQ _ k1)
        · cases h; exact k1
    | binding =>
      simp only [P] at h
      have k0 : Q (if isS sRec r then takeR r else r) := by
        split
        · exact hQ _ q
        · exact q
      generalize (if isS sRec r then [takeT r] else []) = rc at h
      generalize (if isS sRec r then takeR r else r) = r0 at h k0
      split at h
      · obtain ⟨⟨xs, r1⟩, e1, h⟩ := bind_some h
        obtain ⟨⟨ps, r3⟩, e3, e1⟩ := bind_some e1
        cases e1
        obtain ⟨⟨es, r2⟩, e2, h⟩ := bind_some h
        cases h
        exact ih _ _ _ _ _ e2 (hn _ _ (ih _ _ _ _ _ e3 (hQ _ k0)))
      · obtain ⟨⟨xs, r1⟩, e1, h⟩ := bind_some h
        obtain ⟨⟨es, r2⟩, e2, h⟩ := bind_some h
        cases h
        exact ih _ _ _ _ _ e2 (hn _ _ (ih _ _ _ _ _ e1 k0))
    | params =>
      simp only [P] at h
      split at h
      · obtain ⟨⟨a, r1⟩, e1, h⟩ := bind_some h
        obtain ⟨⟨bs, r2⟩, e2, h⟩ := bind_some h
        cases h
        exact ih _ _ _ _ _ e2 (ih _ _ _ _ _ e1 q)
      · cases h; exact q
    | arm =>
      simp only [P] at h
      obtain ⟨⟨a, r1⟩, e1, h⟩ := bind_some h
      obtain ⟨⟨es, r2⟩, e2, h⟩ := bind_some h
      cases h
      exact ih _ _ _ _ _ e2 (hn _ _ (ih _ _ _ _ _ e1 q))
    | arms =>
      simp only [P] at h
      split at h
      · obtain ⟨⟨a, r1⟩, e1, h⟩ := bind_some h
        obtain ⟨⟨bs, r2⟩, e2, h⟩ := bind_some h
        cases h
        exact ih _ _ _ _ _ e2 (ih _ _ _ _ _ e1 (hQ _ q))
      · cases h; exact q
theorem skip_inv {Q : List Tok → Prop} (hQ : ∀ r, Q r → Q (takeR r)) : ∀ (n : Nat) (r : List Tok), Q r → Q (skip n r).2
  | 0, _, q => q
  | n + 1, r, q => by
    simp only [skip]
    split
    · exact skip_inv hQ n _ (hQ _ q)
    · exact q
def NoZ (r : List Tok) : Prop := ∀ t ∈ r, t.1 ≠ 0
theorem noZ_take (r : List Tok) (h : NoZ r) : NoZ (takeR r) := fun t ht => h t ((List.dropWhile_suffix trivB).subset (List.mem_of_mem_drop ht))
theorem nx_zero : ∀ {r : List Tok}, (∀ t ∈ r, t.1 ≠ 0) → (nx r).1 = 0 → takeR r = [] := by
  intro r h h0
  unfold nx at h0
  unfold takeR
  cases hd : r.dropWhile trivB with
  | nil => rfl
  | cons t l =>
    rw [hd] at h0
    have : t ∈ r := (List.dropWhile_suffix trivB).subset (by rw [hd]; simp)
    exact absurd h0 (h t this)
end Go.Parse
/- How deep the parser's trees are; single results. -/
set_option linter.unusedSimpArgs false
namespace Go.Parse
open Go.VM Go.Lex

mutual
def depT : T → Nat
  | .mk _ _ _ l => depL l + 1
def depL : List T → Nat
  | [] => 0
  | t :: l => max (depT t) (depL l)
end
theorem depL_app : ∀ (l m : List T), depL (l ++ m) = max (depL l) (depL m)
  | [], m => by simp [depL]
  | t :: l, m => by simp only [List.cons_append, depL, depL_app l m]; omega
theorem depL_one (t : T) : depL [t] = depT t := by simp [depL]
theorem dep_node (k : Nat) (l : List T) : depT (node k l) = depL l + 1 := by simp [depT]
theorem dep_leaves : ∀ (l : List Tok), depL (l.map leaf0) ≤ 1
  | [] => by simp [depL]
  | t :: l => by
    have := dep_leaves l
    simp only [List.map_cons, depL, leaf0, leaf, depT]; omega
theorem dep_take (r : List Tok) : depT (takeT r) ≤ 2 := by
  have := dep_leaves (r.takeWhile trivB)
  unfold takeT leaf
  simp only [depT]; omega
theorem dep_missing (s : List UInt8) : depT (missing s) = 1 := by simp [missing, depT, depL]
theorem dep_need (s : List UInt8) (r : List Tok) : depT (needT s r) ≤ 2 := by
  unfold needT
  split
  · exact dep_take r
  · rw [dep_missing]; omega
theorem dep_deep (s : List UInt8) (r : List Tok) : depT (deepT s r) ≤ 3 := by
  unfold deepT
  have := dep_take r
  split
  · rw [dep_missing]; omega
  · rw [dep_node, depL_one]; omega
def accL : Job → List T
  | .ops _ acc => [acc]
  | .args acc => [acc]
  | _ => []
theorem depL_nil : depL [] = 0 := by simp [depL]
theorem depL_cons (t : T) (l : List T) : depL (t :: l) = max (depT t) (depL l) := by simp [depL]
theorem acc_whole (b : Bool) : accL (if b then Job.pattern else Job.expr) = [] := by cases b <;> rfl
theorem P_dep : ∀ (N : Nat) (job : Job) (d : Nat) (r : List Tok) (l : List T) (r' : List Tok), P N job d r = some (l, r') → depL l ≤ max (depL (accL job)) (N * N + 4) + N := by
  intro N
  induction N with
  | zero => intro job d r l r' h; cases h
  | succ n ih =>
    intro job d r l r' h
    have hm : (n + 1) * (n + 1) = n * n + 2 * n + 1 := by rw [Nat.add_mul, Nat.mul_add]; omega
    rw [hm]
    clear hm
    generalize n * n = q at ih ⊢
    have tk := dep_take r
    have fin : ∀ {job : Job} {d : Nat} {r : List Tok} {l : List T} {r' : List Tok}, accL job = [] → P n job d r = some (l, r') → depL l ≤ q + 4 + n := fun ha he => by
      have := ih _ _ _ _ _ he
      rw [ha, depL_nil] at this
      omega
    cases job with
    | expr =>
      simp only [P] at h
      simp only [accL, depL_nil]
      split at h
      · cases h; rw [depL_one]; have := dep_deep sExpr r; omega
      · have k := fin rfl h; omega
    | whole =>
      simp only [P] at h
      simp only [accL, depL_nil]
      split at h
      · obtain ⟨⟨bs, r2⟩, e1, h⟩ := bind_some h
        obtain ⟨⟨es, r3⟩, e2, h⟩ := bind_some h
        cases h
        have k1 := fin rfl e1
        have k2 := fin rfl e2
        have := dep_need sIn r2
        simp only [depL_one, dep_node, depL_app, depL_cons, depL_nil]
        omega
      split at h
      · obtain ⟨⟨a, r1⟩, e1, h⟩ := bind_some h
        obtain ⟨⟨ps, r2⟩, e2, h⟩ := bind_some h
        obtain ⟨⟨es, r3⟩, e3, h⟩ := bind_some h
        cases h
        have k1 := fin rfl e1
        have k2 := fin rfl e2
        have k3 := fin rfl e3
        have := dep_need sArrow r2
        simp only [depL_one, dep_node, depL_app, depL_cons, depL_nil]
        omega
      split at h
      · obtain ⟨⟨a, r1⟩, e1, h⟩ := bind_some h
        obtain ⟨⟨b, r2⟩, e2, h⟩ := bind_some h
        obtain ⟨⟨c, r3⟩, e3, h⟩ := bind_some h
        cases h
        have k1 := fin rfl e1
        have k2 := fin rfl e2
        have k3 := fin rfl e3
        have := dep_need sThen r1
        have := dep_need sElse r2
        simp only [depL_one, dep_node, depL_app, depL_cons, depL_nil]
        omega
      split at h
      · obtain ⟨⟨a, r1⟩, e1, h⟩ := bind_some h
        obtain ⟨⟨b, r3⟩, e2, h⟩ := bind_some h
        obtain ⟨⟨cs, r4⟩, e3, h⟩ := bind_some h
        cases h
        have k1 := fin rfl e1
        have k2 := fin rfl e2
        have k3 := fin rfl e3
        have := dep_need sWith r1
        have kb : depL (if isS sBar (needR sWith r1) then [takeT (needR sWith r1)] else []) ≤ 2 := by
          split
          · rw [depL_one]; exact dep_take _
          · rw [depL_nil]; omega
        simp only [depL_one, dep_node, depL_app, depL_cons, depL_nil]
        omega
      · have k := fin rfl h; omega
    | level k =>
      simp only [P] at h
      simp only [accL, depL_nil]
      split at h
      · have k := fin rfl h; omega
      · obtain ⟨⟨a, r1⟩, e1, h⟩ := bind_some h
        dsimp only at h
        split at h
        · rename_i t
          have k1 := fin rfl e1
          have k2 := ih _ _ _ _ _ h
          simp only [accL, depL_one] at k1 k2
          omega
        · cases h
    | ops k acc =>
      simp only [P] at h
      simp only [accL, depL_one]
      split at h
      · obtain ⟨⟨b, r1⟩, e1, h⟩ := bind_some h
        have k1 := fin rfl e1
        have k2 := ih _ _ _ _ _ h
        simp only [accL, depL_one, dep_node, depL_cons, depL_nil] at k2
        omega
      · cases h; rw [depL_one]; omega
    | neg =>
      simp only [P] at h
      simp only [accL, depL_nil]
      split at h
      · split at h
        · cases h
          have := dep_deep sExpr (takeR r)
          simp only [depL_one, dep_node, depL_cons, depL_nil]
          omega
        · obtain ⟨⟨a, r1⟩, e1, h⟩ := bind_some h
          cases h
          have k1 := fin rfl e1
          simp only [depL_one, dep_node, depL_cons, depL_nil]
          omega
      · obtain ⟨⟨a, r1⟩, e1, h⟩ := bind_some h
        dsimp only at h
        split at h
        · have k1 := fin rfl e1
          have k2 := ih _ _ _ _ _ h
          simp only [accL, depL_one] at k1 k2
          omega
        · cases h
    | args acc =>
      simp only [P] at h
      simp only [accL, depL_one]
      split at h
      · obtain ⟨⟨b, r1⟩, e1, h⟩ := bind_some h
        have k1 := fin rfl e1
        have k2 := ih _ _ _ _ _ h
        simp only [accL, depL_one, dep_node, depL_cons, depL_nil] at k2
        omega
      · cases h; rw [depL_one]; omega
    | atom pat =>
      simp only [P] at h
      simp only [accL, depL_nil]
      split at h
      · split at h
        · cases h
          simp only [depL_one, dep_node]
          omega
        split at h
        · have k := fin rfl h; omega
        split at h
        · have k := fin rfl h; omega
        · cases h; rw [depL_one]; omega
      · cases h; rw [depL_one, dep_missing]; omega
    | closed list pat =>
      simp only [P] at h
      simp only [accL, depL_nil]
      split at h
      · cases h
        have tk2 := dep_take (takeR r)
        simp only [depL_one, dep_node, depL_cons, depL_nil]
        omega
      · obtain ⟨⟨a, r2⟩, e1, h⟩ := bind_some h
        obtain ⟨⟨bs, r3⟩, e2, h⟩ := bind_some h
        cases h
        have k1 := fin (acc_whole pat) e1
        have k2 := fin rfl e2
        have := dep_need (endOf list) r3
        simp only [depL_one, dep_node, depL_app, depL_cons, depL_nil]
        omega
    | items list pat =>
      simp only [P] at h
      simp only [accL, depL_nil]
      split at h
      · obtain ⟨⟨a, r1⟩, e1, h⟩ := bind_some h
        obtain ⟨⟨bs, r2⟩, e2, h⟩ := bind_some h
        cases h
        have k1 := fin (acc_whole pat) e1
        have k2 := fin rfl e2
        simp only [depL_app, depL_cons]
        omega
      · cases h; rw [depL_nil]; omega
    | pattern =>
      simp only [P] at h
      simp only [accL, depL_nil]
      split at h
      · cases h; rw [depL_one]; have := dep_deep sPattern r; omega
      · obtain ⟨⟨a, r1⟩, e1, h⟩ := bind_some h
        have k1 := fin rfl e1
        dsimp only at h
        split at h
        · obtain ⟨⟨b, r2⟩, e2, h⟩ := bind_some h
          cases h
          have k2 := fin rfl e2
          have := dep_take r1
          simp only [depL_one, dep_node, depL_app, depL_cons, depL_nil]
          omega
        · cases h; omega
    | binding =>
      simp only [P] at h
      simp only [accL, depL_nil]
      have kr : depL (if isS sRec r then [takeT r] else []) ≤ 2 := by
        split
        · rw [depL_one]; exact tk
        · rw [depL_nil]; omega
      generalize (if isS sRec r then [takeT r] else []) = rc at h kr
      generalize (if isS sRec r then takeR r else r) = r0 at h
      split at h
      · obtain ⟨⟨xs, r1⟩, e1, h⟩ := bind_some h
        obtain ⟨⟨ps, r3⟩, e3, e1⟩ := bind_some e1
        cases e1
        obtain ⟨⟨es, r2⟩, e2, h⟩ := bind_some h
        cases h
        have k3 := fin rfl e3
        have k2 := fin rfl e2
        have := dep_take r0
        have := dep_need sEq r3
        simp only [depL_app, depL_one, depL_cons, depL_nil]
        omega
      · obtain ⟨⟨xs, r1⟩, e1, h⟩ := bind_some h
        obtain ⟨⟨es, r2⟩, e2, h⟩ := bind_some h
        cases h
        have k1 := fin rfl e1
        have k2 := fin rfl e2
        have := dep_need sEq r1
        simp only [depL_app, depL_one]
        omega
    | params =>
      simp only [P] at h
      simp only [accL, depL_nil]
      split at h
      · obtain ⟨⟨a, r1⟩, e1, h⟩ := bind_some h
        obtain ⟨⟨bs, r2⟩, e2, h⟩ := bind_some h
        cases h
        have k1 := fin rfl e1
        have k2 := fin rfl e2
        simp only [depL_app]
        omega
      · cases h; rw [depL_nil]; omega
    | arm =>
      simp only [P] at h
      simp only [accL, depL_nil]
      obtain ⟨⟨a, r1⟩, e1, h⟩ := bind_some h
      obtain ⟨⟨es, r2⟩, e2, h⟩ := bind_some h
      cases h
      have k1 := fin rfl e1
      have k2 := fin rfl e2
      have := dep_need sArrow r1
      simp only [depL_one, dep_node, depL_app]
      omega
    | arms =>
      simp only [P] at h
      simp only [accL, depL_nil]
      split at h
      · obtain ⟨⟨a, r1⟩, e1, h⟩ := bind_some h
        obtain ⟨⟨bs, r2⟩, e2, h⟩ := bind_some h
        cases h
        have k1 := fin rfl e1
        have k2 := fin rfl e2
        simp only [depL_app, depL_cons]
        omega
      · cases h; rw [depL_nil]; omega
/-- One tree, where one is wanted. -/
theorem P_one : ∀ (N : Nat) (job : Job) (d : Nat) (r : List Tok) (l : List T) (r' : List Tok), P N job d r = some (l, r') → single job = true → ∃ t, l = [t] := by
  intro N
  induction N with
  | zero => intro job d r l r' h; cases h
  | succ n ih =>
    intro job d r l r' h hs
    cases job with
    | expr =>
      simp only [P] at h
      split at h
      · cases h; exact ⟨_, rfl⟩
      · exact ih _ _ _ _ _ h rfl
    | whole =>
      simp only [P] at h
      split at h
      · obtain ⟨⟨bs, r2⟩, e1, h⟩ := bind_some h
        obtain ⟨⟨es, r3⟩, e2, h⟩ := bind_some h
        cases h; exact ⟨_, rfl⟩
      split at h
      · obtain ⟨⟨a, r1⟩, e1, h⟩ := bind_some h
        obtain ⟨⟨ps, r2⟩, e2, h⟩ := bind_some h
        obtain ⟨⟨es, r3⟩, e3, h⟩ := bind_some h
        cases h; exact ⟨_, rfl⟩
      split at h
      · obtain ⟨⟨a, r1⟩, e1, h⟩ := bind_some h
        obtain ⟨⟨b, r2⟩, e2, h⟩ := bind_some h
        obtain ⟨⟨c, r3⟩, e3, h⟩ := bind_some h
        cases h; exact ⟨_, rfl⟩
      split at h
      · obtain ⟨⟨a, r1⟩, e1, h⟩ := bind_some h
        obtain ⟨⟨b, r3⟩, e2, h⟩ := bind_some h
        obtain ⟨⟨cs, r4⟩, e3, h⟩ := bind_some h
        cases h; exact ⟨_, rfl⟩
      · exact ih _ _ _ _ _ h rfl
    | level k =>
      simp only [P] at h
      split at h
      · exact ih _ _ _ _ _ h rfl
      · obtain ⟨⟨a, r1⟩, e1, h⟩ := bind_some h
        dsimp only at h
        split at h
        · exact ih _ _ _ _ _ h rfl
        · cases h
    | ops k acc =>
      simp only [P] at h
      split at h
      · obtain ⟨⟨b, r1⟩, e1, h⟩ := bind_some h
        exact ih _ _ _ _ _ h rfl
      · cases h; exact ⟨_, rfl⟩
    | neg =>
      simp only [P] at h
      split at h
      · split at h
        · cases h; exact ⟨_, rfl⟩
        · obtain ⟨⟨a, r1⟩, e1, h⟩ := bind_some h
          cases h; exact ⟨_, rfl⟩
      · obtain ⟨⟨a, r1⟩, e1, h⟩ := bind_some h
        dsimp only at h
        split at h
        · exact ih _ _ _ _ _ h rfl
        · cases h
    | args acc =>
      simp only [P] at h
      split at h
      · obtain ⟨⟨b, r1⟩, e1, h⟩ := bind_some h
        exact ih _ _ _ _ _ h rfl
      · cases h; exact ⟨_, rfl⟩
    | atom pat =>
      simp only [P] at h
      split at h
      · split at h
        · cases h; exact ⟨_, rfl⟩
        split at h
        · exact ih _ _ _ _ _ h rfl
        split at h
        · exact ih _ _ _ _ _ h rfl
        · cases h; exact ⟨_, rfl⟩
      · cases h; exact ⟨_, rfl⟩
    | closed list pat =>
      simp only [P] at h
      split at h
      · cases h; exact ⟨_, rfl⟩
      · obtain ⟨⟨a, r2⟩, e1, h⟩ := bind_some h
        obtain ⟨⟨bs, r3⟩, e2, h⟩ := bind_some h
        cases h; exact ⟨_, rfl⟩
    | items list pat => cases hs
    | pattern =>
      simp only [P] at h
      split at h
      · cases h; exact ⟨_, rfl⟩
      · obtain ⟨⟨a, r1⟩, e1, h⟩ := bind_some h
        dsimp only at h
        split at h
        · obtain ⟨⟨b, r2⟩, e2, h⟩ := bind_some h
          cases h; exact ⟨_, rfl⟩
        · cases h; exact ih _ _ _ _ _ e1 rfl
    | binding => cases hs
    | params => cases hs
    | arm =>
      simp only [P] at h
      obtain ⟨⟨a, r1⟩, e1, h⟩ := bind_some h
      obtain ⟨⟨es, r2⟩, e2, h⟩ := bind_some h
      cases h; exact ⟨_, rfl⟩
    | arms => cases hs
theorem one_len {N : Nat} {job : Job} {d : Nat} {r : List Tok} {l : List T} {r' : List Tok} (h : P N job d r = some (l, r')) (hs : single job = true) : l.length = 1 := by
  obtain ⟨t, rfl⟩ := P_one N job d r l r' h hs
  rfl
theorem single_job (b : Bool) : single (if b then Job.pattern else .expr) = true := by cases b <;> rfl
theorem items_len : ∀ (N : Nat) (list pat : Bool) (d : Nat) (r : List Tok) (l : List T) (r' : List Tok), P N (.items list pat) d r = some (l, r') → l.length ≤ 2 * N := by
  intro N
  induction N with
  | zero => intro list pat d r l r' h; cases h
  | succ n ih =>
    intro list pat d r l r' h
    simp only [P] at h
    split at h
    · obtain ⟨⟨a, r1⟩, e1, h⟩ := bind_some h
      obtain ⟨⟨bs, r2⟩, e2, h⟩ := bind_some h
      cases h
      have := one_len e1 (single_job pat)
      have := ih _ _ _ _ _ _ e2
      simp only [List.length_append, List.length_cons]
      omega
    · cases h; simp
theorem params_len : ∀ (N : Nat) (d : Nat) (r : List Tok) (l : List T) (r' : List Tok), P N .params d r = some (l, r') → l.length ≤ N := by
  intro N
  induction N with
  | zero => intro d r l r' h; cases h
  | succ n ih =>
    intro d r l r' h
    simp only [P] at h
    split at h
    · obtain ⟨⟨a, r1⟩, e1, h⟩ := bind_some h
      obtain ⟨⟨bs, r2⟩, e2, h⟩ := bind_some h
      cases h
      have := one_len e1 rfl
      have := ih _ _ _ _ e2
      simp only [List.length_append]
      omega
    · cases h; simp
theorem arms_len : ∀ (N : Nat) (d : Nat) (r : List Tok) (l : List T) (r' : List Tok), P N .arms d r = some (l, r') → l.length ≤ 2 * N := by
  intro N
  induction N with
  | zero => intro d r l r' h; cases h
  | succ n ih =>
    intro d r l r' h
    simp only [P] at h
    split at h
    · obtain ⟨⟨a, r1⟩, e1, h⟩ := bind_some h
      obtain ⟨⟨bs, r2⟩, e2, h⟩ := bind_some h
      cases h
      have := one_len e1 rfl
      have := ih _ _ _ _ e2
      simp only [List.length_append, List.length_cons]
      omega
    · cases h; simp
theorem binding_len : ∀ (N : Nat) (d : Nat) (r : List Tok) (l : List T) (r' : List Tok), P N .binding d r = some (l, r') → l.length ≤ N + 4 ∧ l ≠ [] := by
  intro N d r l r' h
  cases N with
  | zero => cases h
  | succ n =>
    simp only [P] at h
    have kr : (if isS sRec r then [takeT r] else []).length ≤ 1 := by split <;> simp
    generalize (if isS sRec r then [takeT r] else []) = rc at h kr
    generalize (if isS sRec r then takeR r else r) = r0 at h
    split at h
    · obtain ⟨⟨xs, r1⟩, e1, h⟩ := bind_some h
      obtain ⟨⟨ps, r3⟩, e3, e1⟩ := bind_some e1
      cases e1
      obtain ⟨⟨es, r2⟩, e2, h⟩ := bind_some h
      cases h
      have := params_len _ _ _ _ _ e3
      have := one_len e2 rfl
      refine ⟨?_, by simp⟩
      simp only [List.length_append, List.length_cons, List.length_nil]
      omega
    · obtain ⟨⟨xs, r1⟩, e1, h⟩ := bind_some h
      obtain ⟨⟨es, r2⟩, e2, h⟩ := bind_some h
      cases h
      have := one_len e1 rfl
      have := one_len e2 rfl
      refine ⟨?_, by simp⟩
      simp only [List.length_append, List.length_cons, List.length_nil]
      omega
end Go.Parse
/- Edits, as plain functions. -/
namespace Go.Lex
open Go.VM

def okS (s : List UInt8) : Int := if 65536 < s.length then 40 else if validS s = false then 4 else 0
theorem okS_zero {s : List UInt8} (h : okS s = 0) : s.length ≤ 65536 ∧ validS s = true := by
  unfold okS at h
  by_cases h1 : 65536 < s.length
  · rw [if_pos h1] at h; exact absurd h (by decide)
  · rw [if_neg h1] at h
    cases hv : validS s with
    | false => rw [hv, if_pos rfl] at h; exact absurd h (by decide)
    | true => exact ⟨by omega, rfl⟩
theorem okS_of {s : List UInt8} (h1 : s.length ≤ 65536) (h2 : validS s = true) : okS s = 0 := by
  unfold okS
  rw [if_neg (by omega), h2, if_neg (by simp)]
end Go.Lex
/- How many tokens a text has. -/
namespace Go.Lex
open Go.VM
theorem toksLen : ∀ (n : Nat) (s : List UInt8), s.length ≤ n → (toks n s).length ≤ s.length
  | 0, _, _ => by simp [toks]
  | n + 1, [], _ => by simp [toks]
  | n + 1, c :: l, h => by
    have hc := cut_le (s := c :: l) (by simp)
    have ih := toksLen n ((c :: l).drop (cut (c :: l)).2) (by rw [List.length_drop]; simp at h ⊢; omega)
    rw [List.length_drop] at ih
    simp only [toks, List.length_cons] at ih ⊢
    omega
theorem tokensLen (s : List UInt8) : (tokens s).length ≤ s.length := toksLen _ _ (Nat.le_refl _)
end Go.Lex
/- A document that is in order, and another one behind it. -/
set_option linter.unusedSimpArgs false
namespace Go.Parse
open Go.VM Go.Lex

theorem bind_of {α β : Type} {x : Option α} {f : α → Option β} {a : α} (h : x = some a) : (x >>= f) = f a := by rw [h]; rfl
/-- More fuel, the same. -/
theorem P_mono : ∀ (N : Nat) (job : Job) (d : Nat) (r : List Tok) (x : List T × List Tok), P N job d r = some x → ∀ M, N ≤ M → P M job d r = some x := by
  intro N
  induction N with
  | zero => intro job d r x h; cases h
  | succ n ih =>
    intro job d r x h M hM
    obtain ⟨m, rfl⟩ : ∃ m, M = m + 1 := ⟨M - 1, by omega⟩
    have up : ∀ {job : Job} {d : Nat} {r : List Tok} {x : List T × List Tok}, P n job d r = some x → P m job d r = some x := fun h => ih _ _ _ _ h m (by omega)
    cases job with
    | expr =>
      simp only [P] at h ⊢
      split at h
      · rename_i hc; rw [if_pos hc]; exact h
      · rename_i hc; rw [if_neg hc]; exact up h
    | whole =>
      simp only [P] at h ⊢
      split at h
      · rename_i hc; rw [if_pos hc]
        obtain ⟨⟨bs, r2⟩, e1, h⟩ := bind_some h
        obtain ⟨⟨es, r3⟩, e2, h⟩ := bind_some h
        rw [bind_of (up e1), bind_of (up e2)]; exact h
      rename_i hc; rw [if_neg hc]
      split at h
      · rename_i hc; rw [if_pos hc]
        obtain ⟨⟨a, r1⟩, e1, h⟩ := bind_some h
        obtain ⟨⟨ps, r2⟩, e2, h⟩ := bind_some h
        obtain ⟨⟨es, r3⟩, e3, h⟩ := bind_some h
        rw [bind_of (up e1), bind_of (up e2), bind_of (up e3)]; exact h
      rename_i hc; rw [if_neg hc]
      split at h
      · rename_i hc; rw [if_pos hc]
        obtain ⟨⟨a, r1⟩, e1, h⟩ := bind_some h
        obtain ⟨⟨b, r2⟩, e2, h⟩ := bind_some h
        obtain ⟨⟨c, r3⟩, e3, h⟩ := bind_some h
        rw [bind_of (up e1), bind_of (up e2), bind_of (up e3)]; exact h
      rename_i hc; rw [if_neg hc]
      split at h
      · rename_i hc; rw [if_pos hc]
        obtain ⟨⟨a, r1⟩, e1, h⟩ := bind_some h
        obtain ⟨⟨b, r3⟩, e2, h⟩ := bind_some h
        obtain ⟨⟨cs, r4⟩, e3, h⟩ := bind_some h
        rw [bind_of (up e1), bind_of (up e2), bind_of (up e3)]; exact h
      rename_i hc; rw [if_neg hc]
      exact up h
    | level k =>
      simp only [P] at h ⊢
      split at h
      · rename_i hc; rw [if_pos hc]; exact up h
      · rename_i hc; rw [if_neg hc]
        obtain ⟨⟨a, r1⟩, e1, h⟩ := bind_some h
        rw [bind_of (up e1)]
        dsimp only at h ⊢
        split at h
        · exact up h
        · cases h
    | ops k acc =>
      simp only [P] at h ⊢
      split at h
      · rename_i hc; rw [if_pos hc]
        obtain ⟨⟨b, r1⟩, e1, h⟩ := bind_some h
        rw [bind_of (up e1)]; exact up h
      · rename_i hc; rw [if_neg hc]; exact h
    | neg =>
      simp only [P] at h ⊢
      split at h
      · rename_i hc; rw [if_pos hc]
        split at h
        · rename_i hc; rw [if_pos hc]; exact h
        · rename_i hc; rw [if_neg hc]
          obtain ⟨⟨a, r1⟩, e1, h⟩ := bind_some h
          rw [bind_of (up e1)]; exact h
      · rename_i hc; rw [if_neg hc]
        obtain ⟨⟨a, r1⟩, e1, h⟩ := bind_some h
        rw [bind_of (up e1)]
        dsimp only at h ⊢
        split at h
        · exact up h
        · cases h
    | args acc =>
      simp only [P] at h ⊢
      split at h
      · rename_i hc; rw [if_pos hc]
        obtain ⟨⟨b, r1⟩, e1, h⟩ := bind_some h
        rw [bind_of (up e1)]; exact up h
      · rename_i hc; rw [if_neg hc]; exact h
    | atom pat =>
      simp only [P] at h ⊢
      split at h
      · rename_i hc; rw [if_pos hc]
        split at h
        · rename_i hc; rw [if_pos hc]; exact h
        rename_i hc; rw [if_neg hc]
        split at h
        · rename_i hc; rw [if_pos hc]; exact up h
        rename_i hc; rw [if_neg hc]
        split at h
        · rename_i hc; rw [if_pos hc]; exact up h
        · rename_i hc; rw [if_neg hc]; exact h
      · rename_i hc; rw [if_neg hc]; exact h
    | closed list pat =>
      simp only [P] at h ⊢
      split at h
      · rename_i hc; rw [if_pos hc]; exact h
      · rename_i hc; rw [if_neg hc]
        obtain ⟨⟨a, r2⟩, e1, h⟩ := bind_some h
        obtain ⟨⟨bs, r3⟩, e2, h⟩ := bind_some h
        rw [bind_of (up e1), bind_of (up e2)]; exact h
    | items list pat =>
      simp only [P] at h ⊢
      split at h
      · rename_i hc; rw [if_pos hc]
        obtain ⟨⟨a, r2⟩, e1, h⟩ := bind_some h
        obtain ⟨⟨bs, r3⟩, e2, h⟩ := bind_some h
        rw [bind_of (up e1), bind_of (up e2)]; exact h
      · rename_i hc; rw [if_neg hc]; exact h
    | pattern =>
      simp only [P] at h ⊢
      split at h
      · rename_i hc; rw [if_pos hc]; exact h
      · rename_i hc; rw [if_neg hc]
        obtain ⟨⟨a, r1⟩, e1, h⟩ := bind_some h
        rw [bind_of (up e1)]
        dsimp only at h ⊢
        split at h
        · rename_i hc; rw [if_pos hc]
          obtain ⟨⟨b, r2⟩, e2, h⟩ := bind_some h
          rw [bind_of (up e2)]; exact h
        · rename_i hc; rw [if_neg hc]; exact h
    | binding =>
      simp only [P] at h ⊢
      generalize (if isS sRec r then [takeT r] else []) = rc at h ⊢
      generalize (if isS sRec r then takeR r else r) = r0 at h ⊢
      split at h
      · rename_i hc; rw [if_pos hc]
        obtain ⟨⟨xs, r1⟩, e1, h⟩ := bind_some h
        obtain ⟨⟨ps, r3⟩, e3, e1⟩ := bind_some e1
        cases e1
        obtain ⟨⟨es, r2⟩, e2, h⟩ := bind_some h
        rw [bind_of (up e3)]
        show (P m .expr d (needR sEq r3) >>= _) = _
        rw [bind_of (up e2)]; exact h
      · rename_i hc; rw [if_neg hc]
        obtain ⟨⟨xs, r1⟩, e1, h⟩ := bind_some h
        obtain ⟨⟨es, r2⟩, e2, h⟩ := bind_some h
        rw [bind_of (up e1), bind_of (up e2)]; exact h
    | params =>
      simp only [P] at h ⊢
      split at h
      · rename_i hc; rw [if_pos hc]
        obtain ⟨⟨a, r1⟩, e1, h⟩ := bind_some h
        obtain ⟨⟨bs, r2⟩, e2, h⟩ := bind_some h
        rw [bind_of (up e1), bind_of (up e2)]; exact h
      · rename_i hc; rw [if_neg hc]; exact h
    | arm =>
      simp only [P] at h ⊢
      obtain ⟨⟨a, r1⟩, e1, h⟩ := bind_some h
      obtain ⟨⟨es, r2⟩, e2, h⟩ := bind_some h
      rw [bind_of (up e1), bind_of (up e2)]; exact h
    | arms =>
      simp only [P] at h ⊢
      split at h
      · rename_i hc; rw [if_pos hc]
        obtain ⟨⟨a, r1⟩, e1, h⟩ := bind_some h
        obtain ⟨⟨bs, r2⟩, e2, h⟩ := bind_some h
        rw [bind_of (up e1), bind_of (up e2)]; exact h
      · rename_i hc; rw [if_neg hc]; exact h
theorem decls_mono : ∀ (N : Nat) (r : List Tok) (l : List T), decls N r = some l → ∀ M, N ≤ M → decls M r = some l
  | 0, _, _, h, _, _ => by cases h
  | n + 1, r, l, h, M, hM => by
    obtain ⟨m, rfl⟩ : ∃ m, M = m + 1 := ⟨M - 1, by omega⟩
    simp only [decls] at h ⊢
    split at h
    · rename_i hc; rw [if_pos hc]; exact h
    rename_i hc; rw [if_neg hc]
    split at h
    · rename_i hc; rw [if_pos hc]
      obtain ⟨⟨bs, r1⟩, e1, h⟩ := bind_some h
      obtain ⟨k, e2, h⟩ := bind_some h
      rw [bind_of (P_mono _ _ _ _ _ e1 m (by omega)), bind_of (decls_mono n _ _ e2 m (by omega))]; exact h
    · rename_i hc; rw [if_neg hc]
      obtain ⟨k, e2, h⟩ := bind_some h
      rw [bind_of (decls_mono n _ _ e2 m (by omega))]; exact h
theorem decls_doc {N : Nat} {r : List Tok} {l : List T} (h : decls N r = some l) : doc r = node 4 l := by
  obtain ⟨m, e1, e2⟩ := doc_tot r
  have h1 := decls_mono _ _ _ h (N + fuel r) (by omega)
  have h2 := decls_mono _ _ _ e1 (N + fuel r) (by omega)
  rw [h1] at h2
  rw [e2, Option.some.inj h2]
/-! A list of tokens with another one behind it that begins with let. -/
structure Ext (f : List Tok → List Tok) : Prop where
  nx : ∀ r, (nx r).1 ≠ 0 → Parse.nx (f r) = Parse.nx r
  tk : ∀ r, (Parse.nx r).1 ≠ 0 → takeT (f r) = takeT r
  tr : ∀ r, (Parse.nx r).1 ≠ 0 → takeR (f r) = f (takeR r)
  nd : ∀ r, (Parse.nx r).1 = 0 → Parse.nx (f r) = (3, sLet)
section
variable {f : List Tok → List Tok} (hf : Ext f)
include hf
theorem Ext.isS {s : List UInt8} (hs : s ≠ sLet) (r : List Tok) : Parse.isS s (f r) = Parse.isS s r := by
  by_cases h : (Parse.nx r).1 = 0
  · unfold Parse.isS
    rw [hf.nd r h, h]
    have : (sLet == s) = false := beq_eq_false_iff_ne.2 fun e => hs e.symm
    simp [this]
  · unfold Parse.isS
    rw [hf.nx r h]
theorem Ext.isAny {l : List (List UInt8)} (hl : sLet ∉ l) (r : List Tok) : Parse.isAny l (f r) = Parse.isAny l r := by
  by_cases h : (Parse.nx r).1 = 0
  · unfold Parse.isAny
    rw [hf.nd r h, h]
    have : (l.any fun s => s == sLet) = false := by
      rw [List.any_eq_false]
      intro x hx
      simp only [beq_iff_eq]
      rintro rfl
      exact hl hx
    simp [this]
  · unfold Parse.isAny
    rw [hf.nx r h]
theorem Ext.begins (pat : Bool) (r : List Tok) : Parse.begins pat (f r) = Parse.begins pat r := by
  have ha := hf.isAny (l := [sTrue, sFalse, sOpen, sOpenL, if pat then sAny else sOpen]) (by cases pat <;> decide) r
  unfold Parse.begins
  rw [ha]
  by_cases h : (Parse.nx r).1 = 0
  · rw [hf.nd r h, h]
    cases pat <;> rfl
  · rw [hf.nx r h]
end
theorem kindOf_ne2 (a b : Bool) : kindOf a b ≠ 2 := by cases a <;> cases b <;> decide
/-- What was in hand before a job. -/
def accOf : Job → List T
  | .ops _ acc => [acc]
  | .args acc => [acc]
  | _ => []
end Go.Parse
/- Tokens of a text, a line's end, and another text; the trees of both. -/
set_option linter.unusedSimpArgs false
namespace Go.Lex
open Go.VM

theorem nameK_ne (w : List UInt8) : nameK w ≠ 1 := by
  unfold nameK
  split
  · decide
  · split <;> decide
theorem number_ne (s : List UInt8) : (number s).1 ≠ 1 := by
  unfold number
  dsimp only
  split
  · dsimp only
    split <;> decide
  · show (5 : Nat) ≠ 1
    decide
theorem txt_ne : ∀ (s : List UInt8), (txt s).1 ≠ 1
  | [] => by decide
  | [c] => by
    simp only [txt]
    split
    · decide
    · split <;> decide
  | c :: d :: l => by
    simp only [txt]
    split
    · decide
    split
    · decide
    split
    · split
      · exact txt_ne l
      · show (9 : Nat) ≠ 1
        decide
    · exact txt_ne (d :: l)
/-- A blank token is one of blanks. -/
theorem cut_blank {c : UInt8} {l : List UInt8} (h : (cut (c :: l)).1 = 1) : isBlank c = true ∧ cut (c :: l) = (1, wh isBlank (c :: l)) := by
  cases hb : isBlank c with
  | true =>
    refine ⟨rfl, ?_⟩
    rw [cut_cons]
    unfold cutR
    rw [if_pos hb]
  | false =>
    exfalso
    rw [cut_cons] at h
    unfold cutR at h
    rw [if_neg (show ¬ isBlank c = true by rw [hb]; decide)] at h
    split at h
    · split at h
      · exact absurd (show (2 : Nat) = 1 from h) (by decide)
      · exact absurd (show (9 : Nat) = 1 from h) (by decide)
    split at h
    · exact nameK_ne _ h
    split at h
    · exact number_ne _ h
    split at h
    · exact txt_ne _ h
    split at h
    · exact absurd (show (8 : Nat) = 1 from h) (by decide)
    split at h
    · exact absurd (show (8 : Nat) = 1 from h) (by decide)
    · exact absurd (show (9 : Nat) = 1 from h) (by decide)
end Go.Lex
namespace Go.Parse
open Go.VM Go.Lex

theorem tw_mem {p : Tok → Bool} {l : List Tok} {x : Tok} (h : x ∈ l.takeWhile p) : p x = true := List.all_eq_true.1 List.all_takeWhile x h
mutual
/-- A tree's shape. -/
def shapeT : T → List UInt8
  | .mk k _ tx l => if k = 1 then tx else if k = 2 then 63 :: tx else 40 :: UInt8.ofNat (97 + k) :: shapeL l ++ [41]
def shapeL : List T → List UInt8
  | [] => []
  | t :: l => 32 :: shapeT t ++ shapeL l
end
theorem shape_leaf (t : Tok) (ks : List T) : shapeT (leaf t ks) = t.2 := by simp [leaf, shapeT]
end Go.Parse
/- How long shapes are. -/
set_option linter.unusedSimpArgs false
namespace Go.Parse
open Go.VM Go.Lex

def Wt : List Tok → Nat
  | [] => 0
  | t :: r => 100 + t.2.length + Wt r
theorem Wt_drop (p : Tok → Bool) : ∀ (r : List Tok), Wt (r.dropWhile p) ≤ Wt r
  | [] => Nat.le_refl _
  | t :: r => by
    rw [List.dropWhile_cons]
    split
    · have := Wt_drop p r
      simp only [Wt]; omega
    · exact Nat.le_refl _
theorem Wt_take (r : List Tok) : Wt (takeR r) + (nx r).2.length ≤ Wt r ∧ ((nx r).1 ≠ 0 → Wt (takeR r) + (nx r).2.length + 100 ≤ Wt r) := by
  have h := Wt_drop trivB r
  unfold takeR nx
  cases hd : r.dropWhile trivB with
  | nil => simp [Wt]
  | cons t l =>
    rw [hd] at h
    simp only [Wt, List.drop_succ_cons, List.drop_zero] at h ⊢
    omega
def SL (l : List T) : Nat := (shapeL l).length
theorem SL_nil : SL [] = 0 := rfl
theorem SL_cons (t : T) (l : List T) : SL (t :: l) = 1 + (shapeT t).length + SL l := by simp [SL, shapeL]; omega
theorem SL_app : ∀ (l m : List T), SL (l ++ m) = SL l + SL m
  | [], m => by simp [SL_nil]
  | t :: l, m => by rw [List.cons_append, SL_cons, SL_cons, SL_app l m]; omega
theorem sz_node {k : Nat} (h1 : k ≠ 1) (h2 : k ≠ 2) (l : List T) : (shapeT (node k l)).length = 3 + SL l := by
  simp only [shapeT, if_neg h1, if_neg h2, List.length_cons, List.length_append, List.length_nil, SL]; omega
theorem sz_take (r : List Tok) : (shapeT (takeT r)).length = (nx r).2.length := by unfold takeT; rw [shape_leaf]
theorem sz_missing (s : List UInt8) : (shapeT (missing s)).length = 1 + s.length := by simp [missing, shapeT]; omega
theorem sz_need (s : List UInt8) (r : List Tok) : (shapeT (needT s r)).length + Wt (needR s r) ≤ Wt r + 1 + s.length := by
  unfold needT needR
  have := Wt_take r
  split
  · rw [sz_take]; omega
  · rw [sz_missing]; omega
theorem sz_deep (s : List UInt8) (r : List Tok) : (shapeT (deepT s r)).length + Wt (deepR r) ≤ Wt r + 1 + s.length := by
  unfold deepT deepR
  have := Wt_take r
  split
  · rw [sz_missing]; omega
  · rename_i h
    have := this.2 h
    rw [sz_node (by decide) (by decide), SL_cons, SL_nil, sz_take]; omega
def allow : Job → Nat
  | .ops _ _ => 0
  | .args _ => 0
  | .closed _ _ => 0
  | .items _ _ => 0
  | .binding => 40
  | .params => 0
  | .arm => 40
  | .arms => 0
  | _ => 10
def firmN : Job → List Tok → Nat
  | .atom pat, r => if begins pat r = true then 60 else 0
  | .closed _ _, _ => 60
  | _, _ => 0
theorem allow_one (b : Bool) : allow (if b then Job.pattern else .expr) = 10 := by cases b <;> rfl
theorem firm_one (b : Bool) (r : List Tok) : firmN (if b then Job.pattern else .expr) r = 0 := by cases b <;> rfl
theorem at_one (b : Bool) (r : List Tok) : at' (if b then Job.pattern else .expr) r := by cases b <;> exact trivial
theorem len_end (b : Bool) : (endOf b).length = 1 := by cases b <;> rfl
theorem P_sz : ∀ (N : Nat) (job : Job) (d : Nat) (r : List Tok) (l : List T) (r' : List Tok), P N job d r = some (l, r') → at' job r → SL l + Wt r' + firmN job r ≤ SL (accL job) + Wt r + allow job := by
  intro N
  induction N with
  | zero => intro job d r l r' h; cases h
  | succ n ih =>
    intro job d r l r' h ha
    have tk := Wt_take r
    cases job with
    | expr =>
      simp only [P] at h
      simp only [accL, SL_nil, allow, firmN]
      split at h
      · cases h
        have := sz_deep sExpr r
        simp only [SL_cons, SL_nil, show sExpr.length = 4 from rfl] at this ⊢
        omega
      · have k := ih _ _ _ _ _ h trivial
        simp only [accL, SL_nil, allow, firmN] at k
        omega
    | whole =>
      simp only [P] at h
      simp only [accL, SL_nil, allow, firmN]
      split at h
      · rename_i hb
        obtain ⟨⟨bs, r2⟩, e1, h⟩ := bind_some h
        obtain ⟨⟨es, r3⟩, e2, h⟩ := bind_some h
        cases h
        have k1 := ih _ _ _ _ _ e1 trivial
        have k2 := ih _ _ _ _ _ e2 trivial
        have k3 := sz_need sIn r2
        have k4 := tk.2 (isS_nx hb)
        simp only [accL, SL_nil, allow, firmN, show sIn.length = 2 from rfl] at k1 k2 k3
        rw [SL_cons, sz_node (by decide) (by decide)]
        simp only [SL_app, SL_cons, SL_nil, sz_take]
        omega
      split at h
      · rename_i hb
        obtain ⟨⟨a, r1⟩, e1, h⟩ := bind_some h
        obtain ⟨⟨ps, r2⟩, e2, h⟩ := bind_some h
        obtain ⟨⟨es, r3⟩, e3, h⟩ := bind_some h
        cases h
        have k1 := ih _ _ _ _ _ e1 trivial
        have k2 := ih _ _ _ _ _ e2 trivial
        have k3 := ih _ _ _ _ _ e3 trivial
        have k5 := sz_need sArrow r2
        have k4 := tk.2 (isS_nx hb)
        simp only [accL, SL_nil, allow, firmN, show sArrow.length = 2 from rfl] at k1 k2 k3 k5
        rw [SL_cons, sz_node (by decide) (by decide)]
        simp only [SL_app, SL_cons, SL_nil, sz_take]
        omega
      split at h
      · rename_i hb
        obtain ⟨⟨a, r1⟩, e1, h⟩ := bind_some h
        obtain ⟨⟨b, r2⟩, e2, h⟩ := bind_some h
        obtain ⟨⟨c, r3⟩, e3, h⟩ := bind_some h
        cases h
        have k1 := ih _ _ _ _ _ e1 trivial
        have k2 := ih _ _ _ _ _ e2 trivial
        have k3 := ih _ _ _ _ _ e3 trivial
        have k5 := sz_need sThen r1
        have k6 := sz_need sElse r2
        have k4 := tk.2 (isS_nx hb)
        simp only [accL, SL_nil, allow, firmN, show sThen.length = 4 from rfl, show sElse.length = 4 from rfl] at k1 k2 k3 k5 k6
        rw [SL_cons, sz_node (by decide) (by decide)]
        simp only [SL_app, SL_cons, SL_nil, sz_take]
        omega
      split at h
      · rename_i hb
        obtain ⟨⟨a, r1⟩, e1, h⟩ := bind_some h
        obtain ⟨⟨b, r3⟩, e2, h⟩ := bind_some h
        obtain ⟨⟨cs, r4⟩, e3, h⟩ := bind_some h
        cases h
        have k1 := ih _ _ _ _ _ e1 trivial
        have k2 := ih _ _ _ _ _ e2 trivial
        have k3 := ih _ _ _ _ _ e3 trivial
        have k5 := sz_need sWith r1
        have k4 := tk.2 (isS_nx hb)
        have kb : SL (if isS sBar (needR sWith r1) then [takeT (needR sWith r1)] else []) + Wt (if isS sBar (needR sWith r1) then takeR (needR sWith r1) else needR sWith r1) ≤ Wt (needR sWith r1) := by
          split
          · rename_i hb
            have := (Wt_take (needR sWith r1)).2 (isS_nx hb)
            simp only [SL_cons, SL_nil, sz_take]
            omega
          · rw [SL_nil]; omega
        simp only [accL, SL_nil, allow, firmN, show sWith.length = 4 from rfl] at k1 k2 k3 k5
        rw [SL_cons, sz_node (by decide) (by decide)]
        simp only [SL_app, SL_cons, SL_nil, sz_take]
        omega
      · have k := ih _ _ _ _ _ h trivial
        simp only [accL, SL_nil, allow, firmN] at k
        omega
    | level k =>
      simp only [P] at h
      simp only [accL, SL_nil, allow, firmN]
      split at h
      · have k := ih _ _ _ _ _ h trivial
        simp only [accL, SL_nil, allow, firmN] at k
        omega
      · obtain ⟨⟨a, r1⟩, e1, h⟩ := bind_some h
        dsimp only at h
        split at h
        · have k1 := ih _ _ _ _ _ e1 trivial
          have k2 := ih _ _ _ _ _ h trivial
          simp only [accL, SL_cons, SL_nil, allow, firmN] at k1 k2
          omega
        · cases h
    | ops k acc =>
      simp only [P] at h
      simp only [accL, SL_cons, SL_nil, allow, firmN]
      split at h
      · rename_i hb
        obtain ⟨⟨b, r1⟩, e1, h⟩ := bind_some h
        have k1 := ih _ _ _ _ _ e1 trivial
        have k2 := ih _ _ _ _ _ h trivial
        have k4 := tk.2 (isAny_nx hb)
        simp only [accL, SL_cons, SL_nil, allow, firmN] at k1 k2
        rw [sz_node (by decide) (by decide)] at k2
        simp only [SL_cons, SL_nil, sz_take] at k2
        omega
      · cases h; simp only [SL_cons, SL_nil]; omega
    | neg =>
      simp only [P] at h
      simp only [accL, SL_nil, allow, firmN]
      split at h
      · rename_i hb
        have k4 := tk.2 (isAny_nx hb)
        split at h
        · cases h
          have := sz_deep sExpr (takeR r)
          simp only [show sExpr.length = 4 from rfl] at this
          rw [SL_cons, sz_node (by decide) (by decide)]
          simp only [SL_app, SL_cons, SL_nil, sz_take]
          omega
        · obtain ⟨⟨a, r1⟩, e1, h⟩ := bind_some h
          cases h
          have k1 := ih _ _ _ _ _ e1 trivial
          simp only [accL, SL_nil, allow, firmN] at k1
          rw [SL_cons, sz_node (by decide) (by decide)]
          simp only [SL_app, SL_cons, SL_nil, sz_take]
          omega
      · obtain ⟨⟨a, r1⟩, e1, h⟩ := bind_some h
        dsimp only at h
        split at h
        · have k1 := ih _ _ _ _ _ e1 trivial
          have k2 := ih _ _ _ _ _ h trivial
          simp only [accL, SL_cons, SL_nil, allow, firmN] at k1 k2
          omega
        · cases h
    | args acc =>
      simp only [P] at h
      simp only [accL, SL_cons, SL_nil, allow, firmN]
      split at h
      · rename_i hb
        obtain ⟨⟨b, r1⟩, e1, h⟩ := bind_some h
        have k1 := ih _ _ _ _ _ e1 trivial
        have k2 := ih _ _ _ _ _ h trivial
        simp only [accL, SL_cons, SL_nil, allow, firmN, if_pos hb] at k1 k2
        rw [sz_node (by decide) (by decide)] at k2
        simp only [SL_cons, SL_nil] at k2
        omega
      · cases h; simp only [SL_cons, SL_nil]; omega
    | atom pat =>
      simp only [P] at h
      simp only [accL, SL_nil, allow, firmN]
      split at h
      · rename_i hb
        rw [if_pos hb]
        have k4 := tk.2 (begins_nx hb)
        split at h
        · cases h
          rw [SL_cons, sz_node (by decide) (by decide)]
          simp only [SL_cons, SL_nil, sz_take]
          omega
        split at h
        · have k := ih _ _ _ _ _ h (begins_nx hb)
          simp only [accL, SL_nil, allow, firmN] at k
          omega
        split at h
        · have k := ih _ _ _ _ _ h (begins_nx hb)
          simp only [accL, SL_nil, allow, firmN] at k
          omega
        · cases h
          simp only [SL_cons, SL_nil, sz_take]
          omega
      · rename_i hb
        cases h
        rw [if_neg hb]
        simp only [SL_cons, SL_nil, sz_missing]
        cases pat <;> simp [sPattern, sExpr] <;> omega
    | closed list pat =>
      simp only [P] at h
      simp only [accL, SL_nil, allow, firmN]
      have k4 := tk.2 ha
      have kn1 := kindOf_ne list pat
      have kn2 := kindOf_ne2 list pat
      split at h
      · cases h
        have k5 := Wt_take (takeR r)
        rw [SL_cons, sz_node kn1 kn2]
        simp only [SL_cons, SL_nil, sz_take]
        omega
      · obtain ⟨⟨a, r2⟩, e1, h⟩ := bind_some h
        obtain ⟨⟨bs, r3⟩, e2, h⟩ := bind_some h
        cases h
        have k1 := ih _ _ _ _ _ e1 (at_one pat _)
        have k2 := ih _ _ _ _ _ e2 trivial
        have k5 := sz_need (endOf list) r3
        rw [acc_whole, allow_one, firm_one, SL_nil] at k1
        simp only [accL, SL_nil, allow, firmN, len_end] at k1 k2 k5
        rw [SL_cons, sz_node kn1 kn2]
        simp only [SL_app, SL_cons, SL_nil, sz_take]
        omega
    | items list pat =>
      simp only [P] at h
      simp only [accL, SL_nil, allow, firmN]
      split at h
      · rename_i hb
        obtain ⟨⟨a, r1⟩, e1, h⟩ := bind_some h
        obtain ⟨⟨bs, r2⟩, e2, h⟩ := bind_some h
        cases h
        have k4 := tk.2 (isS_nx hb)
        have k1 := ih _ _ _ _ _ e1 (at_one pat _)
        have k2 := ih _ _ _ _ _ e2 trivial
        rw [acc_whole, allow_one, firm_one, SL_nil] at k1
        simp only [accL, SL_nil, allow, firmN] at k1 k2
        simp only [SL_app, SL_cons, SL_nil, sz_take]
        omega
      · cases h; simp only [SL_nil]; omega
    | pattern =>
      simp only [P] at h
      simp only [accL, SL_nil, allow, firmN]
      split at h
      · cases h
        have := sz_deep sPattern r
        simp only [SL_cons, SL_nil, show sPattern.length = 7 from rfl] at this ⊢
        omega
      · obtain ⟨⟨a, r1⟩, e1, h⟩ := bind_some h
        have k1 := ih _ _ _ _ _ e1 trivial
        have k3 : SL a + Wt r1 ≤ Wt r + 10 := by
          simp only [accL, SL_nil, allow, firmN] at k1
          omega
        dsimp only at h
        split at h
        · rename_i hb
          obtain ⟨⟨b, r2⟩, e2, h⟩ := bind_some h
          cases h
          have k2 := ih _ _ _ _ _ e2 trivial
          have k4 := (Wt_take r1).2 (isS_nx hb)
          simp only [accL, SL_nil, allow, firmN] at k2
          rw [SL_cons, sz_node (by decide) (by decide)]
          simp only [SL_app, SL_cons, SL_nil, sz_take]
          omega
        · cases h; omega
    | binding =>
      simp only [P] at h
      simp only [accL, SL_nil, allow, firmN]
      have kr : SL (if isS sRec r then [takeT r] else []) + Wt (if isS sRec r then takeR r else r) ≤ Wt r := by
        split
        · rename_i hb
          have := tk.2 (isS_nx hb)
          simp only [SL_cons, SL_nil, sz_take]
          omega
        · rw [SL_nil]; omega
      generalize (if isS sRec r then [takeT r] else []) = rc at h kr
      generalize (if isS sRec r then takeR r else r) = r0 at h kr
      split at h
      · rename_i h4
        obtain ⟨⟨xs, r1⟩, e1, h⟩ := bind_some h
        obtain ⟨⟨ps, r3⟩, e3, e1⟩ := bind_some e1
        cases e1
        obtain ⟨⟨es, r2⟩, e2, h⟩ := bind_some h
        cases h
        have k3 := ih _ _ _ _ _ e3 trivial
        have k2 := ih _ _ _ _ _ e2 trivial
        have k4 := (Wt_take r0).2 (by omega)
        have k5 := sz_need sEq r3
        simp only [accL, SL_nil, allow, firmN, show sEq.length = 1 from rfl] at k2 k3 k5
        simp only [SL_app, SL_cons, SL_nil, sz_take]
        omega
      · obtain ⟨⟨xs, r1⟩, e1, h⟩ := bind_some h
        obtain ⟨⟨es, r2⟩, e2, h⟩ := bind_some h
        cases h
        have k1 := ih _ _ _ _ _ e1 trivial
        have k2 := ih _ _ _ _ _ e2 trivial
        have k5 := sz_need sEq r1
        simp only [accL, SL_nil, allow, firmN, show sEq.length = 1 from rfl] at k1 k2 k5
        simp only [SL_app, SL_cons, SL_nil, sz_take]
        omega
    | params =>
      simp only [P] at h
      simp only [accL, SL_nil, allow, firmN]
      split at h
      · rename_i hb
        obtain ⟨⟨a, r1⟩, e1, h⟩ := bind_some h
        obtain ⟨⟨bs, r2⟩, e2, h⟩ := bind_some h
        cases h
        have k1 := ih _ _ _ _ _ e1 trivial
        have k2 := ih _ _ _ _ _ e2 trivial
        simp only [accL, SL_nil, allow, firmN, if_pos hb] at k1 k2
        simp only [SL_app]
        omega
      · cases h; simp only [SL_nil]; omega
    | arm =>
      simp only [P] at h
      simp only [accL, SL_nil, allow, firmN]
      obtain ⟨⟨a, r1⟩, e1, h⟩ := bind_some h
      obtain ⟨⟨es, r2⟩, e2, h⟩ := bind_some h
      cases h
      have k1 := ih _ _ _ _ _ e1 trivial
      have k2 := ih _ _ _ _ _ e2 trivial
      have k5 := sz_need sArrow r1
      simp only [accL, SL_nil, allow, firmN, show sArrow.length = 2 from rfl] at k1 k2 k5
      rw [SL_cons, sz_node (by decide) (by decide)]
      simp only [SL_app, SL_cons, SL_nil]
      omega
    | arms =>
      simp only [P] at h
      simp only [accL, SL_nil, allow, firmN]
      split at h
      · rename_i hb
        obtain ⟨⟨a, r1⟩, e1, h⟩ := bind_some h
        obtain ⟨⟨bs, r2⟩, e2, h⟩ := bind_some h
        cases h
        have k4 := tk.2 (isS_nx hb)
        have k1 := ih _ _ _ _ _ e1 trivial
        have k2 := ih _ _ _ _ _ e2 trivial
        simp only [accL, SL_nil, allow, firmN] at k1 k2
        simp only [SL_app, SL_cons, SL_nil, sz_take]
        omega
      · cases h; simp only [SL_nil]; omega
theorem skip_sz : ∀ (n : Nat) (r : List Tok), SL (skip n r).1 + Wt (skip n r).2 ≤ Wt r
  | 0, r => by show SL [] + Wt r ≤ Wt r; rw [SL_nil]; omega
  | n + 1, r => by
    simp only [skip]
    split
    · rename_i h
      have k := skip_sz n (takeR r)
      have k4 := (Wt_take r).2 h.1
      simp only [SL_cons, sz_take]
      omega
    · show SL [] + Wt r ≤ Wt r; rw [SL_nil]; omega
theorem decls_sz : ∀ (N : Nat) (r : List Tok) (D : List T), decls N r = some D → SL D ≤ 5 * Wt r + 10
  | 0, _, _, h => by cases h
  | n + 1, r, D, h => by
    simp only [decls] at h
    have tk := Wt_take r
    split at h
    · cases h
      simp only [SL_cons, SL_nil, sz_take]
      omega
    rename_i h0
    have k4 := tk.2 h0
    split at h
    · obtain ⟨⟨bs, r1⟩, e1, h⟩ := bind_some h
      obtain ⟨D1, e2, h⟩ := bind_some h
      cases h
      have k1 := P_sz _ _ _ _ _ _ e1 trivial
      have k2 := decls_sz n r1 D1 e2
      simp only [accL, SL_nil, allow, firmN] at k1
      rw [SL_cons, sz_node (by decide) (by decide), SL_cons, sz_take]
      dsimp only
      omega
    · rename_i hb
      obtain ⟨D1, e2, h⟩ := bind_some h
      cases h
      have k2 := decls_sz n _ D1 e2
      have k1 : SL (skip r.length r).1 + Wt (skip r.length r).2 + 20 ≤ Wt r := by
        obtain ⟨m, hm⟩ : ∃ m, r.length = m + 1 := by
          cases r with
          | nil => exact absurd rfl h0
          | cons t l => exact ⟨l.length, rfl⟩
        rw [hm]
        simp only [skip]
        rw [if_pos ⟨h0, by simpa using hb⟩]
        have k := skip_sz m (takeR r)
        simp only [SL_cons, sz_take]
        omega
      rw [SL_cons, sz_node (by decide) (by decide)]
      omega
theorem doc_sz (r : List Tok) : (shapeT (doc r)).length ≤ 5 * Wt r + 20 := by
  obtain ⟨l, e1, e2⟩ := doc_tot r
  rw [e2, sz_node (by decide) (by decide)]
  have := decls_sz _ _ _ e1
  omega
end Go.Parse
/- Blanks of another kind change no shape. -/
set_option linter.unusedSimpArgs false
namespace Go.Parse
open Go.VM Go.Lex

/-- Tokens of the same kinds, and the same but for blanks and remarks. -/
structure Mild (φ : Tok → Tok) : Prop where
  kind : ∀ t, (φ t).1 = t.1
  same : ∀ t, trivB t = false → φ t = t
section
variable {φ : Tok → Tok} (hφ : Mild φ)
include hφ
theorem Mild.triv (t : Tok) : trivB (φ t) = trivB t := by simp only [trivB, hφ.kind]
theorem Mild.drop : ∀ (r : List Tok), (r.map φ).dropWhile trivB = (r.dropWhile trivB).map φ
  | [] => rfl
  | t :: r => by
    rw [List.map_cons, List.dropWhile_cons, List.dropWhile_cons, hφ.triv]
    cases trivB t with
    | true => rw [if_pos rfl, if_pos rfl]; exact Mild.drop r
    | false => rw [if_neg (by decide), if_neg (by decide)]; rfl
theorem Mild.nx (r : List Tok) : Parse.nx (r.map φ) = Parse.nx r := by
  unfold Parse.nx
  rw [hφ.drop]
  cases h : r.dropWhile trivB with
  | nil => rfl
  | cons t l =>
    have ht : trivB t = false := by
      have := List.head?_dropWhile_not trivB r
      rw [h] at this
      simpa using this
    exact hφ.same t ht
theorem Mild.takeR (r : List Tok) : Parse.takeR (r.map φ) = (Parse.takeR r).map φ := by
  unfold Parse.takeR
  rw [hφ.drop, List.map_drop]
theorem Mild.takeT (r : List Tok) : shapeT (Parse.takeT (r.map φ)) = shapeT (Parse.takeT r) := by
  unfold Parse.takeT
  rw [shape_leaf, shape_leaf, hφ.nx]
theorem Mild.isS (s : List UInt8) (r : List Tok) : Parse.isS s (r.map φ) = Parse.isS s r := by unfold Parse.isS; rw [hφ.nx]
theorem Mild.isAny (l : List (List UInt8)) (r : List Tok) : Parse.isAny l (r.map φ) = Parse.isAny l r := by unfold Parse.isAny; rw [hφ.nx]
theorem Mild.begins (p : Bool) (r : List Tok) : Parse.begins p (r.map φ) = Parse.begins p r := by unfold Parse.begins; rw [hφ.nx, hφ.isAny]
theorem Mild.needR (s : List UInt8) (r : List Tok) : Parse.needR s (r.map φ) = (Parse.needR s r).map φ := by
  unfold Parse.needR
  rw [hφ.isS, hφ.takeR]
  split <;> rfl
theorem Mild.needT (s : List UInt8) (r : List Tok) : shapeT (Parse.needT s (r.map φ)) = shapeT (Parse.needT s r) := by
  unfold Parse.needT
  rw [hφ.isS]
  split
  · exact hφ.takeT r
  · rfl
theorem Mild.deepR (r : List Tok) : Parse.deepR (r.map φ) = (Parse.deepR r).map φ := by
  unfold Parse.deepR
  rw [hφ.nx, hφ.takeR]
  split <;> rfl
end
def shapes (l : List T) : List (List UInt8) := l.map shapeT
theorem shapeL_eq : ∀ (l : List T), shapeL l = ((shapes l).map fun s => 32 :: s).flatten
  | [] => rfl
  | t :: l => by simp only [shapeL, shapeL_eq l, shapes, List.map_cons, List.flatten_cons]
theorem shape_node {k : Nat} (h1 : k ≠ 1) (h2 : k ≠ 2) {l m : List T} (h : shapes l = shapes m) : shapeT (node k l) = shapeT (node k m) := by
  simp only [shapeT, if_neg h1, if_neg h2, shapeL_eq, h]
theorem shapes_app (l m : List T) : shapes (l ++ m) = shapes l ++ shapes m := by simp [shapes]
theorem shapes_cons (t : T) (l : List T) : shapes (t :: l) = shapeT t :: shapes l := rfl
theorem shapes_nil : shapes [] = [] := rfl
theorem shapes_one {a : List T} {t : T} (h : shapes a = shapes [t]) : ∃ u, a = [u] ∧ shapeT u = shapeT t := by
  cases a with
  | nil => cases h
  | cons u l =>
    cases l with
    | nil => exact ⟨u, rfl, by simpa [shapes] using h⟩
    | cons v l => simp [shapes] at h
theorem shape_deep {φ : Tok → Tok} (hφ : Mild φ) (s : List UInt8) (r : List Tok) : shapeT (deepT s (r.map φ)) = shapeT (deepT s r) := by
  unfold deepT
  rw [hφ.nx]
  split
  · rfl
  · refine shape_node (by decide) (by decide) ?_
    rw [shapes_cons, shapes_cons, hφ.takeT]
/-- Two jobs, the same but for what is in hand, which has the same shape. -/
inductive Like : Job → Job → Prop where
  | rfl (j : Job) : Like j j
  | ops (k : Nat) {t u : T} : shapeT t = shapeT u → Like (.ops k t) (.ops k u)
  | args {t u : T} : shapeT t = shapeT u → Like (.args t) (.args u)
theorem P_map {φ : Tok → Tok} (hφ : Mild φ) : ∀ (N : Nat) (job job' : Job) (d : Nat) (r : List Tok) (l : List T) (r' : List Tok), Like job job' → P N job d r = some (l, r') → ∃ m, P N job' d (r.map φ) = some (m, r'.map φ) ∧ shapes m = shapes l := by
  intro N
  induction N with
  | zero => intro job job' d r l r' _ h; cases h
  | succ n ih =>
    intro job job' d r l r' hL h
    have go : ∀ {job : Job} {d : Nat} {r : List Tok} {l : List T} {r' : List Tok}, P n job d r = some (l, r') → ∃ m, P n job d (r.map φ) = some (m, r'.map φ) ∧ shapes m = shapes l := fun h => ih _ _ _ _ _ _ (.rfl _) h
    cases hL with
    | ops k ht =>
      rename_i t u
      simp only [P] at h ⊢
      rw [hφ.isAny]
      split at h
      · rename_i hc; rw [if_pos hc]
        obtain ⟨⟨b, r1⟩, e1, h⟩ := bind_some h
        obtain ⟨b', e1', s1⟩ := go e1
        rw [hφ.takeR, bind_of e1']
        refine ih _ _ _ _ _ _ (.ops k ?_) h
        refine shape_node (by decide) (by decide) ?_
        simp only [shapes_cons, hφ.takeT, s1, ht]
      · rename_i hc; rw [if_neg hc]; cases h
        exact ⟨_, rfl, by simp only [shapes_cons, ht]⟩
    | args ht =>
      rename_i t u
      simp only [P] at h ⊢
      rw [hφ.begins]
      split at h
      · rename_i hc; rw [if_pos hc]
        obtain ⟨⟨b, r1⟩, e1, h⟩ := bind_some h
        obtain ⟨b', e1', s1⟩ := go e1
        rw [bind_of e1']
        refine ih _ _ _ _ _ _ (.args ?_) h
        refine shape_node (by decide) (by decide) ?_
        simp only [shapes_cons, s1, ht]
      · rename_i hc; rw [if_neg hc]; cases h
        exact ⟨_, rfl, by simp only [shapes_cons, ht]⟩
    | rfl =>
      cases job with
      | expr =>
        simp only [P] at h ⊢
        split at h
        · rename_i hc; rw [if_pos hc]; cases h
          exact ⟨_, by rw [hφ.deepR], by simp only [shapes_cons, shape_deep hφ]⟩
        · rename_i hc; rw [if_neg hc]; exact go h
      | whole =>
        simp only [P] at h ⊢
        rw [hφ.isS, hφ.isS, hφ.isS, hφ.isS, hφ.takeR]
        split at h
        · rename_i hc; rw [if_pos hc]
          obtain ⟨⟨bs, r2⟩, e1, h⟩ := bind_some h
          obtain ⟨⟨es, r3⟩, e2, h⟩ := bind_some h
          cases h
          obtain ⟨x1, y1, s1⟩ := go e1
          obtain ⟨x2, y2, s2⟩ := go e2
          rw [bind_of y1]
          dsimp only
          rw [hφ.needR, bind_of y2]
          refine ⟨_, rfl, ?_⟩
          rw [shapes_cons, shapes_cons]
          congr 1
          refine shape_node (by decide) (by decide) ?_
          simp only [shapes_app, shapes_cons, shapes_nil, hφ.takeT, hφ.needT, s1, s2]
        rename_i hc; rw [if_neg hc]
        split at h
        · rename_i hc; rw [if_pos hc]
          obtain ⟨⟨a, r1⟩, e1, h⟩ := bind_some h
          obtain ⟨⟨ps, r2⟩, e2, h⟩ := bind_some h
          obtain ⟨⟨es, r3⟩, e3, h⟩ := bind_some h
          cases h
          obtain ⟨x1, y1, s1⟩ := go e1
          obtain ⟨x2, y2, s2⟩ := go e2
          obtain ⟨x3, y3, s3⟩ := go e3
          rw [bind_of y1]
          dsimp only
          rw [bind_of y2]
          dsimp only
          rw [hφ.needR, bind_of y3]
          refine ⟨_, rfl, ?_⟩
          rw [shapes_cons, shapes_cons]
          congr 1
          refine shape_node (by decide) (by decide) ?_
          simp only [shapes_app, shapes_cons, shapes_nil, hφ.takeT, hφ.needT, s1, s2, s3]
        rename_i hc; rw [if_neg hc]
        split at h
        · rename_i hc; rw [if_pos hc]
          obtain ⟨⟨a, r1⟩, e1, h⟩ := bind_some h
          obtain ⟨⟨b, r2⟩, e2, h⟩ := bind_some h
          obtain ⟨⟨c, r3⟩, e3, h⟩ := bind_some h
          cases h
          obtain ⟨x1, y1, s1⟩ := go e1
          obtain ⟨x2, y2, s2⟩ := go e2
          obtain ⟨x3, y3, s3⟩ := go e3
          rw [bind_of y1]
          dsimp only
          rw [hφ.needR, bind_of y2]
          dsimp only
          rw [hφ.needR, bind_of y3]
          refine ⟨_, rfl, ?_⟩
          rw [shapes_cons, shapes_cons]
          congr 1
          refine shape_node (by decide) (by decide) ?_
          simp only [shapes_app, shapes_cons, shapes_nil, hφ.takeT, hφ.needT, s1, s2, s3]
        rename_i hc; rw [if_neg hc]
        split at h
        · rename_i hc; rw [if_pos hc]
          obtain ⟨⟨a, r1⟩, e1, h⟩ := bind_some h
          obtain ⟨⟨b, r3⟩, e2, h⟩ := bind_some h
          obtain ⟨⟨cs, r4⟩, e3, h⟩ := bind_some h
          cases h
          obtain ⟨x1, y1, s1⟩ := go e1
          obtain ⟨x2, y2, s2⟩ := go e2
          obtain ⟨x3, y3, s3⟩ := go e3
          rw [bind_of y1]
          dsimp only
          have hb : (if Parse.isS sBar (Parse.needR sWith (r1.map φ)) = true then Parse.takeR (Parse.needR sWith (r1.map φ)) else Parse.needR sWith (r1.map φ)) = (if Parse.isS sBar (Parse.needR sWith r1) = true then Parse.takeR (Parse.needR sWith r1) else Parse.needR sWith r1).map φ := by
            rw [hφ.needR, hφ.isS, hφ.takeR]
            split <;> rfl
          rw [hb, bind_of y2]
          dsimp only
          rw [bind_of y3]
          refine ⟨_, rfl, ?_⟩
          rw [shapes_cons, shapes_cons]
          congr 1
          refine shape_node (by decide) (by decide) ?_
          have hs : shapes (if Parse.isS sBar (Parse.needR sWith (r1.map φ)) = true then [Parse.takeT (Parse.needR sWith (r1.map φ))] else []) = shapes (if Parse.isS sBar (Parse.needR sWith r1) = true then [Parse.takeT (Parse.needR sWith r1)] else []) := by
            rw [hφ.needR, hφ.isS]
            split
            · simp only [shapes_cons, hφ.takeT]
            · rfl
          simp only [shapes_app, shapes_cons, shapes_nil, hφ.takeT, hφ.needT, s1, s2, s3, hs]
        rename_i hc; rw [if_neg hc]
        exact go h
      | level k =>
        simp only [P] at h ⊢
        split at h
        · rename_i hc; rw [if_pos hc]; exact go h
        · rename_i hc; rw [if_neg hc]
          obtain ⟨⟨a, r1⟩, e1, h⟩ := bind_some h
          dsimp only at h
          split at h
          · obtain ⟨x1, y1, s1⟩ := go e1
            obtain ⟨u, rfl, s⟩ := shapes_one s1
            rw [bind_of y1]
            exact ih _ _ _ _ _ _ (.ops k s.symm) h
          · cases h
      | ops k t =>
        simp only [P] at h ⊢
        rw [hφ.isAny]
        split at h
        · rename_i hc; rw [if_pos hc]
          obtain ⟨⟨b, r1⟩, e1, h⟩ := bind_some h
          obtain ⟨b', e1', s1⟩ := go e1
          rw [hφ.takeR, bind_of e1']
          refine ih _ _ _ _ _ _ (.ops k ?_) h
          refine shape_node (by decide) (by decide) ?_
          simp only [shapes_cons, hφ.takeT, s1]
        · rename_i hc; rw [if_neg hc]; cases h
          exact ⟨_, rfl, rfl⟩
      | args t =>
        simp only [P] at h ⊢
        rw [hφ.begins]
        split at h
        · rename_i hc; rw [if_pos hc]
          obtain ⟨⟨b, r1⟩, e1, h⟩ := bind_some h
          obtain ⟨b', e1', s1⟩ := go e1
          rw [bind_of e1']
          refine ih _ _ _ _ _ _ (.args ?_) h
          refine shape_node (by decide) (by decide) ?_
          simp only [shapes_cons, s1]
        · rename_i hc; rw [if_neg hc]; cases h
          exact ⟨_, rfl, rfl⟩
      | neg =>
        simp only [P] at h ⊢
        rw [hφ.isAny, hφ.takeR]
        split at h
        · rename_i hc; rw [if_pos hc]
          split at h
          · rename_i hc; rw [if_pos hc]; cases h
            refine ⟨_, by rw [hφ.deepR], ?_⟩
            rw [shapes_cons, shapes_cons]
            congr 1
            refine shape_node (by decide) (by decide) ?_
            simp only [shapes_cons, hφ.takeT, shape_deep hφ]
          · rename_i hc; rw [if_neg hc]
            obtain ⟨⟨a, r1⟩, e1, h⟩ := bind_some h
            cases h
            obtain ⟨x1, y1, s1⟩ := go e1
            rw [bind_of y1]
            refine ⟨_, rfl, ?_⟩
            rw [shapes_cons, shapes_cons]
            congr 1
            refine shape_node (by decide) (by decide) ?_
            simp only [shapes_cons, hφ.takeT, s1]
        · rename_i hc; rw [if_neg hc]
          obtain ⟨⟨a, r1⟩, e1, h⟩ := bind_some h
          dsimp only at h
          split at h
          · obtain ⟨x1, y1, s1⟩ := go e1
            obtain ⟨u, rfl, s⟩ := shapes_one s1
            rw [bind_of y1]
            exact ih _ _ _ _ _ _ (.args s.symm) h
          · cases h
      | atom pat =>
        simp only [P] at h ⊢
        rw [hφ.begins, hφ.nx, hφ.isS, hφ.isS, hφ.takeR]
        split at h
        · rename_i hc; rw [if_pos hc]
          split at h
          · rename_i hc; rw [if_pos hc]; cases h
            refine ⟨_, rfl, ?_⟩
            rw [shapes_cons, shapes_cons]
            congr 1
            refine shape_node (by decide) (by decide) ?_
            simp only [shapes_cons, hφ.takeT]
          rename_i hc; rw [if_neg hc]
          split at h
          · rename_i hc; rw [if_pos hc]; exact go h
          rename_i hc; rw [if_neg hc]
          split at h
          · rename_i hc; rw [if_pos hc]; exact go h
          · rename_i hc; rw [if_neg hc]; cases h
            exact ⟨_, rfl, by simp only [shapes_cons, hφ.takeT]⟩
        · rename_i hc; rw [if_neg hc]; cases h
          exact ⟨_, rfl, rfl⟩
      | closed list pat =>
        simp only [P] at h ⊢
        rw [hφ.takeR, hφ.isS]
        split at h
        · rename_i hc; rw [if_pos hc]; cases h
          refine ⟨_, by rw [hφ.takeR], ?_⟩
          rw [shapes_cons, shapes_cons]
          congr 1
          refine shape_node (kindOf_ne _ _) (kindOf_ne2 _ _) ?_
          simp only [shapes_cons, hφ.takeT]
        · rename_i hc; rw [if_neg hc]
          obtain ⟨⟨a, r2⟩, e1, h⟩ := bind_some h
          obtain ⟨⟨bs, r3⟩, e2, h⟩ := bind_some h
          cases h
          obtain ⟨x1, y1, s1⟩ := go e1
          obtain ⟨x2, y2, s2⟩ := go e2
          rw [bind_of y1]
          dsimp only
          rw [bind_of y2]
          refine ⟨_, by rw [hφ.needR], ?_⟩
          rw [shapes_cons, shapes_cons]
          congr 1
          refine shape_node (kindOf_ne _ _) (kindOf_ne2 _ _) ?_
          simp only [shapes_app, shapes_cons, shapes_nil, hφ.takeT, hφ.needT, s1, s2]
      | items list pat =>
        simp only [P] at h ⊢
        rw [hφ.isS, hφ.takeR]
        split at h
        · rename_i hc; rw [if_pos hc]
          obtain ⟨⟨a, r2⟩, e1, h⟩ := bind_some h
          obtain ⟨⟨bs, r3⟩, e2, h⟩ := bind_some h
          cases h
          obtain ⟨x1, y1, s1⟩ := go e1
          obtain ⟨x2, y2, s2⟩ := go e2
          rw [bind_of y1]
          dsimp only
          rw [bind_of y2]
          refine ⟨_, rfl, ?_⟩
          simp only [shapes_app, shapes_cons, List.cons_append, hφ.takeT, s1, s2]
        · rename_i hc; rw [if_neg hc]; cases h
          exact ⟨_, rfl, rfl⟩
      | pattern =>
        simp only [P] at h ⊢
        split at h
        · rename_i hc; rw [if_pos hc]; cases h
          exact ⟨_, by rw [hφ.deepR], by simp only [shapes_cons, shape_deep hφ]⟩
        · rename_i hc; rw [if_neg hc]
          obtain ⟨⟨a, r1⟩, e1, h⟩ := bind_some h
          obtain ⟨x1, y1, s1⟩ := go e1
          rw [bind_of y1]
          dsimp only at h ⊢
          rw [hφ.isS, hφ.takeR]
          split at h
          · rename_i hc; rw [if_pos hc]
            obtain ⟨⟨b, r2⟩, e2, h⟩ := bind_some h
            cases h
            obtain ⟨x2, y2, s2⟩ := go e2
            rw [bind_of y2]
            refine ⟨_, rfl, ?_⟩
            rw [shapes_cons, shapes_cons]
            congr 1
            refine shape_node (by decide) (by decide) ?_
            simp only [shapes_app, shapes_cons, hφ.takeT, s1, s2]
          · rename_i hc; rw [if_neg hc]; cases h
            exact ⟨_, rfl, s1⟩
      | binding =>
        simp only [P] at h ⊢
        rw [hφ.isS]
        have k0 : (if Parse.isS sRec r = true then Parse.takeR (r.map φ) else r.map φ) = (if Parse.isS sRec r = true then Parse.takeR r else r).map φ := by
          rw [hφ.takeR]
          split <;> rfl
        have k1 : shapes (if Parse.isS sRec r = true then [Parse.takeT (r.map φ)] else []) = shapes (if Parse.isS sRec r = true then [Parse.takeT r] else []) := by
          split
          · simp only [shapes_cons, hφ.takeT]
          · rfl
        rw [k0]
        generalize (if Parse.isS sRec r = true then [Parse.takeT (r.map φ)] else []) = rc' at k1 ⊢
        generalize (if Parse.isS sRec r = true then [Parse.takeT r] else []) = rc at h k1
        generalize (if Parse.isS sRec r = true then Parse.takeR r else r) = r0 at h ⊢
        rw [hφ.nx, hφ.takeR]
        split at h
        · rename_i hc; rw [if_pos hc]
          obtain ⟨⟨xs, r1⟩, e1, h⟩ := bind_some h
          obtain ⟨⟨ps, r3⟩, e3, e1⟩ := bind_some e1
          cases e1
          obtain ⟨⟨es, r2⟩, e2, h⟩ := bind_some h
          cases h
          obtain ⟨x3, y3, s3⟩ := go e3
          obtain ⟨x2, y2, s2⟩ := go e2
          rw [bind_of y3]
          show ∃ m, (P n .expr d (Parse.needR sEq (r3.map φ)) >>= _) = _ ∧ _
          rw [hφ.needR, bind_of y2]
          refine ⟨_, rfl, ?_⟩
          simp only [shapes_app, shapes_cons, shapes_nil, hφ.takeT, hφ.needT, s2, s3, k1]
        · rename_i hc; rw [if_neg hc]
          obtain ⟨⟨xs, r1⟩, e1, h⟩ := bind_some h
          obtain ⟨⟨es, r2⟩, e2, h⟩ := bind_some h
          cases h
          obtain ⟨x1, y1, s1⟩ := go e1
          obtain ⟨x2, y2, s2⟩ := go e2
          rw [bind_of y1]
          dsimp only
          rw [hφ.needR, bind_of y2]
          refine ⟨_, rfl, ?_⟩
          simp only [shapes_app, shapes_cons, shapes_nil, hφ.needT, s1, s2, k1]
      | params =>
        simp only [P] at h ⊢
        rw [hφ.begins]
        split at h
        · rename_i hc; rw [if_pos hc]
          obtain ⟨⟨a, r1⟩, e1, h⟩ := bind_some h
          obtain ⟨⟨bs, r2⟩, e2, h⟩ := bind_some h
          cases h
          obtain ⟨x1, y1, s1⟩ := go e1
          obtain ⟨x2, y2, s2⟩ := go e2
          rw [bind_of y1]
          dsimp only
          rw [bind_of y2]
          exact ⟨_, rfl, by simp only [shapes_app, s1, s2]⟩
        · rename_i hc; rw [if_neg hc]; cases h
          exact ⟨_, rfl, rfl⟩
      | arm =>
        simp only [P] at h ⊢
        obtain ⟨⟨a, r1⟩, e1, h⟩ := bind_some h
        obtain ⟨⟨es, r2⟩, e2, h⟩ := bind_some h
        cases h
        obtain ⟨x1, y1, s1⟩ := go e1
        obtain ⟨x2, y2, s2⟩ := go e2
        rw [bind_of y1]
        dsimp only
        rw [hφ.needR, bind_of y2]
        refine ⟨_, rfl, ?_⟩
        rw [shapes_cons, shapes_cons]
        congr 1
        refine shape_node (by decide) (by decide) ?_
        simp only [shapes_app, shapes_cons, shapes_nil, hφ.needT, s1, s2]
      | arms =>
        simp only [P] at h ⊢
        rw [hφ.isS, hφ.takeR]
        split at h
        · rename_i hc; rw [if_pos hc]
          obtain ⟨⟨a, r1⟩, e1, h⟩ := bind_some h
          obtain ⟨⟨bs, r2⟩, e2, h⟩ := bind_some h
          cases h
          obtain ⟨x1, y1, s1⟩ := go e1
          obtain ⟨x2, y2, s2⟩ := go e2
          rw [bind_of y1]
          dsimp only
          rw [bind_of y2]
          refine ⟨_, rfl, ?_⟩
          simp only [shapes_app, shapes_cons, List.cons_append, hφ.takeT, s1, s2]
        · rename_i hc; rw [if_neg hc]; cases h
          exact ⟨_, rfl, rfl⟩
theorem skip_map {φ : Tok → Tok} (hφ : Mild φ) : ∀ (n : Nat) (r : List Tok), (skip n (r.map φ)).2 = (skip n r).2.map φ ∧ shapes (skip n (r.map φ)).1 = shapes (skip n r).1
  | 0, _ => ⟨rfl, rfl⟩
  | n + 1, r => by
    obtain ⟨h1, h2⟩ := skip_map hφ n (takeR r)
    simp only [skip]
    rw [hφ.nx, hφ.isS, hφ.takeR]
    split
    · exact ⟨h1, by simp only [shapes_cons, hφ.takeT, h2]⟩
    · exact ⟨rfl, rfl⟩
theorem decls_map {φ : Tok → Tok} (hφ : Mild φ) : ∀ (n : Nat) (r : List Tok) (l : List T), decls n r = some l → ∃ m, decls n (r.map φ) = some m ∧ shapes m = shapes l
  | 0, _, _, h => by cases h
  | n + 1, r, l, h => by
    simp only [decls] at h ⊢
    rw [hφ.nx, hφ.isS, hφ.takeR, List.length_map]
    split at h
    · rename_i hc; rw [if_pos hc]; cases h
      exact ⟨_, rfl, by simp only [shapes_cons, hφ.takeT]⟩
    rename_i hc; rw [if_neg hc]
    split at h
    · rename_i hc; rw [if_pos hc]
      obtain ⟨⟨bs, r1⟩, e1, h⟩ := bind_some h
      obtain ⟨k, e2, h⟩ := bind_some h
      cases h
      obtain ⟨x1, y1, s1⟩ := P_map hφ _ _ _ _ _ _ _ (.rfl _) e1
      obtain ⟨x2, y2, s2⟩ := decls_map hφ n r1 k e2
      rw [bind_of y1]
      dsimp only
      rw [bind_of y2]
      refine ⟨_, rfl, ?_⟩
      rw [shapes_cons, shapes_cons, s2]
      congr 1
      refine shape_node (by decide) (by decide) ?_
      simp only [shapes_cons, hφ.takeT, s1]
    · rename_i hc; rw [if_neg hc]
      obtain ⟨k, e2, h⟩ := bind_some h
      cases h
      obtain ⟨h1, h2⟩ := skip_map hφ r.length r
      obtain ⟨x2, y2, s2⟩ := decls_map hφ n _ k e2
      rw [h1, bind_of y2]
      refine ⟨_, rfl, ?_⟩
      rw [shapes_cons, shapes_cons, s2]
      congr 1
      exact shape_node (by decide) (by decide) h2
theorem doc_map {φ : Tok → Tok} (hφ : Mild φ) (r : List Tok) : shapeT (doc (r.map φ)) = shapeT (doc r) := by
  obtain ⟨l, e1, e2⟩ := doc_tot r
  obtain ⟨m, h1, h2⟩ := decls_map hφ _ _ _ e1
  rw [decls_doc h1, e2]
  exact shape_node (by decide) (by decide) h2
end Go.Parse
/- Whatever is told of trees and of tokens alike: nothing is lost of it; texts with other blanks. -/
set_option linter.unusedSimpArgs false
namespace Go.Parse
open Go.VM Go.Lex

structure Meas {α : Type} (F1 : T → List α) (F : List T → List α) (G : List Tok → List α) : Prop where
  nil : F [] = []
  cons : ∀ t l, F (t :: l) = F1 t ++ F l
  node : ∀ {k}, k ≠ 1 → ∀ l, F1 (node k l) = F l
  miss : ∀ s, F1 (missing s) = []
  take : ∀ r, F1 (takeT r) ++ G (takeR r) = G r
section
variable {α : Type} {F1 : T → List α} {F : List T → List α} {G : List Tok → List α} (hm : Meas F1 F G)
include hm
theorem Meas.one (t : T) : F [t] = F1 t := by rw [hm.cons, hm.nil, List.append_nil]
theorem Meas.app : ∀ (l m : List T), F (l ++ m) = F l ++ F m
  | [], m => by rw [List.nil_append, hm.nil, List.nil_append]
  | t :: l, m => by rw [List.cons_append, hm.cons, hm.cons, Meas.app l m, List.append_assoc]
theorem Meas.need (s : List UInt8) (r : List Tok) : F1 (needT s r) ++ G (needR s r) = G r := by
  unfold needT needR
  split
  · exact hm.take r
  · rw [hm.miss]; rfl
theorem Meas.deep (s : List UInt8) (r : List Tok) : F1 (deepT s r) ++ G (deepR r) = G r := by
  unfold deepT deepR
  split
  · rw [hm.miss]; rfl
  · rw [hm.node (by decide), hm.one]; exact hm.take r
end
theorem P_gen {α : Type} {F1 : T → List α} {F : List T → List α} {G : List Tok → List α} (hm : Meas F1 F G) : ∀ (N : Nat) (job : Job) (d : Nat) (r : List Tok) (l : List T) (r' : List Tok), P N job d r = some (l, r') → F l ++ G r' = F (accOf job) ++ G r := by
  intro N
  induction N with
  | zero => intro job d r l r' h; cases h
  | succ n ih =>
    intro job d r l r' h
    have tk := hm.take r
    cases job with
    | expr =>
      simp only [P] at h
      split at h
      · cases h; rw [hm.one, hm.deep]; simp [accOf, hm.nil]
      · have k := ih _ _ _ _ _ h; exact k
    | whole =>
      simp only [P] at h
      split at h
      · obtain ⟨⟨bs, r2⟩, e1, h⟩ := bind_some h
        obtain ⟨⟨es, r3⟩, e2, h⟩ := bind_some h
        cases h
        have k1 := ih _ _ _ _ _ e1
        have k2 := ih _ _ _ _ _ e2
        simp only [accOf, hm.nil, hm.one, List.nil_append] at k1 k2 ⊢
        (try rw [hm.one]); rw [hm.node (by decide)]
        simp only [hm.app, hm.cons, hm.nil, List.nil_append, List.append_nil, List.append_assoc, List.cons_append, k2, hm.need, k1, tk]
      split at h
      · obtain ⟨⟨a, r1⟩, e1, h⟩ := bind_some h
        obtain ⟨⟨ps, r2⟩, e2, h⟩ := bind_some h
        obtain ⟨⟨es, r3⟩, e3, h⟩ := bind_some h
        cases h
        have k1 := ih _ _ _ _ _ e1
        have k2 := ih _ _ _ _ _ e2
        have k3 := ih _ _ _ _ _ e3
        simp only [accOf, hm.nil, hm.one, List.nil_append] at k1 k2 k3 ⊢
        (try rw [hm.one]); rw [hm.node (by decide)]
        simp only [hm.app, hm.cons, hm.nil, List.nil_append, List.append_nil, List.append_assoc, List.cons_append, k3, hm.need, k2, k1, tk]
      split at h
      · obtain ⟨⟨a, r1⟩, e1, h⟩ := bind_some h
        obtain ⟨⟨b, r2⟩, e2, h⟩ := bind_some h
        obtain ⟨⟨c, r3⟩, e3, h⟩ := bind_some h
        cases h
        have k1 := ih _ _ _ _ _ e1
        have k2 := ih _ _ _ _ _ e2
        have k3 := ih _ _ _ _ _ e3
        simp only [accOf, hm.nil, hm.one, List.nil_append] at k1 k2 k3 ⊢
        (try rw [hm.one]); rw [hm.node (by decide)]
        simp only [hm.app, hm.cons, hm.nil, List.nil_append, List.append_nil, List.append_assoc, List.cons_append, k3, hm.need, k2, k1, tk]
      split at h
      · obtain ⟨⟨a, r1⟩, e1, h⟩ := bind_some h
        obtain ⟨⟨b, r3⟩, e2, h⟩ := bind_some h
        obtain ⟨⟨cs, r4⟩, e3, h⟩ := bind_some h
        cases h
        have k1 := ih _ _ _ _ _ e1
        have k2 := ih _ _ _ _ _ e2
        have k3 := ih _ _ _ _ _ e3
        simp only [accOf, hm.nil, hm.one, List.nil_append] at k1 k2 k3 ⊢
        have kb : F (if isS sBar (needR sWith r1) then [takeT (needR sWith r1)] else []) ++ G (if isS sBar (needR sWith r1) then takeR (needR sWith r1) else needR sWith r1) = G (needR sWith r1) := by
          split
          · rw [hm.one]; exact hm.take _
          · rw [hm.nil]; rfl
        (try rw [hm.one]); rw [hm.node (by decide)]
        simp only [hm.app, hm.cons, hm.nil, List.nil_append, List.append_nil, List.append_assoc, List.cons_append, k3, k2, kb, hm.need, k1, tk]
      · have k := ih _ _ _ _ _ h; exact k
    | level k =>
      simp only [P] at h
      split at h
      · have k := ih _ _ _ _ _ h; exact k
      · obtain ⟨⟨a, r1⟩, e1, h⟩ := bind_some h
        dsimp only at h
        split at h
        · have k1 := ih _ _ _ _ _ e1
          have k2 := ih _ _ _ _ _ h
          simp only [accOf, hm.nil, hm.one, List.nil_append, hm.one] at k1 k2 ⊢
          rw [k2, k1]
        · cases h
    | ops k acc =>
      simp only [P] at h
      split at h
      · obtain ⟨⟨b, r1⟩, e1, h⟩ := bind_some h
        have k1 := ih _ _ _ _ _ e1
        have k2 := ih _ _ _ _ _ h
        simp only [accOf, hm.nil, hm.one, List.nil_append] at k1 k2 ⊢
        rw [k2, hm.node (by decide)]
        simp only [hm.cons, hm.nil, List.nil_append, List.append_assoc, k1, tk]
      · cases h; simp [accOf]
    | neg =>
      simp only [P] at h
      split at h
      · split at h
        · cases h
          (try rw [hm.one]); rw [hm.node (by decide)]
          simp only [hm.cons, hm.nil, List.nil_append, List.append_nil, List.append_assoc, accOf, hm.nil, List.nil_append, hm.deep, tk]
        · obtain ⟨⟨a, r1⟩, e1, h⟩ := bind_some h
          cases h
          have k1 := ih _ _ _ _ _ e1
          simp only [accOf, hm.nil, hm.one, List.nil_append] at k1 ⊢
          (try rw [hm.one]); rw [hm.node (by decide)]
          simp only [hm.cons, hm.nil, List.nil_append, List.append_assoc, k1, tk]
      · obtain ⟨⟨a, r1⟩, e1, h⟩ := bind_some h
        dsimp only at h
        split at h
        · have k1 := ih _ _ _ _ _ e1
          have k2 := ih _ _ _ _ _ h
          simp only [accOf, hm.nil, hm.one, List.nil_append, hm.one] at k1 k2 ⊢
          rw [k2, k1]
        · cases h
    | args acc =>
      simp only [P] at h
      split at h
      · obtain ⟨⟨b, r1⟩, e1, h⟩ := bind_some h
        have k1 := ih _ _ _ _ _ e1
        have k2 := ih _ _ _ _ _ h
        simp only [accOf, hm.nil, hm.one, List.nil_append] at k1 k2 ⊢
        rw [k2, hm.node (by decide)]
        simp only [hm.cons, hm.nil, List.nil_append, List.append_assoc, k1]
      · cases h; simp [accOf]
    | atom pat =>
      simp only [P] at h
      split at h
      · split at h
        · cases h
          (try rw [hm.one]); rw [hm.node (by decide), hm.one]
          simp only [accOf, hm.nil, List.nil_append]; exact tk
        split at h
        · have k := ih _ _ _ _ _ h; exact k
        split at h
        · have k := ih _ _ _ _ _ h; exact k
        · cases h; rw [hm.one]; simp only [accOf, hm.nil, List.nil_append]; exact tk
      · cases h; rw [hm.one, hm.miss]; simp [accOf, hm.nil]
    | closed list pat =>
      simp only [P] at h
      split at h
      · cases h
        have tk2 := hm.take (takeR r)
        (try rw [hm.one]); rw [hm.node (kindOf_ne _ _)]
        simp only [hm.cons, hm.nil, List.nil_append, List.append_nil, List.append_assoc, accOf, hm.nil, List.nil_append, tk2, tk]
      · obtain ⟨⟨a, r2⟩, e1, h⟩ := bind_some h
        obtain ⟨⟨bs, r3⟩, e2, h⟩ := bind_some h
        cases h
        have k1 := ih _ _ _ _ _ e1
        have k2 := ih _ _ _ _ _ e2
        have hd : accOf (if pat then Job.pattern else Job.expr) = [] := by cases pat <;> rfl
        rw [hd] at k1
        simp only [accOf, hm.nil, hm.one, List.nil_append] at k1 k2 ⊢
        (try rw [hm.one]); rw [hm.node (kindOf_ne _ _)]
        simp only [hm.app, hm.cons, hm.nil, List.nil_append, List.append_nil, List.append_assoc, List.cons_append, hm.need, k2, k1, tk]
    | items list pat =>
      simp only [P] at h
      split at h
      · obtain ⟨⟨a, r2⟩, e1, h⟩ := bind_some h
        obtain ⟨⟨bs, r3⟩, e2, h⟩ := bind_some h
        cases h
        have k1 := ih _ _ _ _ _ e1
        have k2 := ih _ _ _ _ _ e2
        have hd : accOf (if pat then Job.pattern else Job.expr) = [] := by cases pat <;> rfl
        rw [hd] at k1
        simp only [accOf, hm.nil, hm.one, List.nil_append] at k1 k2 ⊢
        simp only [hm.app, hm.cons, hm.nil, List.nil_append, List.append_assoc, List.cons_append, k2, k1, tk]
      · cases h; simp [accOf, hm.nil]
    | pattern =>
      simp only [P] at h
      split at h
      · cases h; rw [hm.one, hm.deep]; simp [accOf, hm.nil]
      · obtain ⟨⟨a, r1⟩, e1, h⟩ := bind_some h
        have k1 := ih _ _ _ _ _ e1
        dsimp only at h
        split at h
        · obtain ⟨⟨b, r2⟩, e2, h⟩ := bind_some h
          cases h
          have k2 := ih _ _ _ _ _ e2
          simp only [accOf, hm.nil, hm.one, List.nil_append] at k1 k2 ⊢
          (try rw [hm.one]); rw [hm.node (by decide)]
          simp only [hm.app, hm.cons, hm.nil, List.nil_append, List.append_assoc, k2, hm.take, k1]
        · cases h; exact k1
    | binding =>
      simp only [P] at h
      have k0 : F (if isS sRec r then [takeT r] else []) ++ G (if isS sRec r then takeR r else r) = G r := by
        split
        · rw [hm.one]; exact tk
        · rw [hm.nil]; rfl
      generalize (if isS sRec r then [takeT r] else []) = rc at h k0
      generalize (if isS sRec r then takeR r else r) = r0 at h k0
      split at h
      · obtain ⟨⟨xs, r1⟩, e1, h⟩ := bind_some h
        obtain ⟨⟨ps, r3⟩, e3, e1⟩ := bind_some e1
        cases e1
        obtain ⟨⟨es, r2⟩, e2, h⟩ := bind_some h
        cases h
        have k3 := ih _ _ _ _ _ e3
        have k2 := ih _ _ _ _ _ e2
        simp only [accOf, hm.nil, hm.one, List.nil_append] at k2 k3 ⊢
        simp only [hm.app, hm.cons, hm.nil, List.nil_append, hm.one, List.append_assoc, List.cons_append, k2, hm.need, k3, hm.take, k0]
      · obtain ⟨⟨xs, r1⟩, e1, h⟩ := bind_some h
        obtain ⟨⟨es, r2⟩, e2, h⟩ := bind_some h
        cases h
        have k1 := ih _ _ _ _ _ e1
        have k2 := ih _ _ _ _ _ e2
        simp only [accOf, hm.nil, hm.one, List.nil_append] at k1 k2 ⊢
        simp only [hm.app, hm.one, List.append_assoc, k2, hm.need, k1, k0]
    | params =>
      simp only [P] at h
      split at h
      · obtain ⟨⟨a, r1⟩, e1, h⟩ := bind_some h
        obtain ⟨⟨bs, r2⟩, e2, h⟩ := bind_some h
        cases h
        have k1 := ih _ _ _ _ _ e1
        have k2 := ih _ _ _ _ _ e2
        simp only [accOf, hm.nil, hm.one, List.nil_append] at k1 k2 ⊢
        simp only [hm.app, List.append_assoc, k2, k1]
      · cases h; simp [accOf, hm.nil]
    | arm =>
      simp only [P] at h
      obtain ⟨⟨a, r1⟩, e1, h⟩ := bind_some h
      obtain ⟨⟨es, r2⟩, e2, h⟩ := bind_some h
      cases h
      have k1 := ih _ _ _ _ _ e1
      have k2 := ih _ _ _ _ _ e2
      simp only [accOf, hm.nil, hm.one, List.nil_append] at k1 k2 ⊢
      (try rw [hm.one]); rw [hm.node (by decide)]
      simp only [hm.app, hm.one, List.append_assoc, k2, hm.need, k1]
    | arms =>
      simp only [P] at h
      split at h
      · obtain ⟨⟨a, r1⟩, e1, h⟩ := bind_some h
        obtain ⟨⟨bs, r2⟩, e2, h⟩ := bind_some h
        cases h
        have k1 := ih _ _ _ _ _ e1
        have k2 := ih _ _ _ _ _ e2
        simp only [accOf, hm.nil, hm.one, List.nil_append] at k1 k2 ⊢
        simp only [hm.app, hm.cons, hm.nil, List.nil_append, List.append_assoc, List.cons_append, k2, k1, tk]
      · cases h; simp [accOf, hm.nil]
end Go.Parse
/- A token that is followed by tokens and a blank is the same before any other blank. -/
set_option linter.unusedSimpArgs false
namespace Go.Lex
open Go.VM

/-- Nothing, or what begins with a blank. -/
def Stop (x : List UInt8) : Prop := x = [] ∨ ∃ c r, x = c :: r ∧ isBlank c = true
theorem blank_four {c : UInt8} (h : isBlank c = true) : c = 32 ∨ c = 9 ∨ c = 10 ∨ c = 13 := by
  simp only [isBlank, Bool.or_eq_true, beq_iff_eq] at h
  rcases h with ((h | h) | h) | h
  · exact .inl h
  · exact .inr (.inl h)
  · exact .inr (.inr (.inl h))
  · exact .inr (.inr (.inr h))
theorem blank_dig (c : UInt8) (h : isBlank c = true) : isDig c = false := by rcases blank_four h with rfl | rfl | rfl | rfl <;> rfl
theorem blank_beh (c : UInt8) (h : isBlank c = true) : isBeh c = false := by rcases blank_four h with rfl | rfl | rfl | rfl <;> rfl
theorem wh_stop {p : UInt8 → Bool} (hp : ∀ c, isBlank c = true → p c = false) {x : List UInt8} (hx : Stop x) : ∀ s : List UInt8, wh p (s ++ x) = wh p s
  | [] => by
    rcases hx with rfl | ⟨c, r, rfl, h⟩
    · rfl
    · rw [List.nil_append, wh_cons, hp c h]; rfl
  | c :: s => by
    rw [List.cons_append, wh_cons, wh_cons, wh_stop hp hx s]
theorem tw_stop {p : UInt8 → Bool} (hp : ∀ c, isBlank c = true → p c = false) {x : List UInt8} (hx : Stop x) : ∀ s : List UInt8, (s ++ x).takeWhile p = s.takeWhile p
  | [] => by
    rcases hx with rfl | ⟨c, r, rfl, h⟩
    · rfl
    · rw [List.nil_append, List.takeWhile_cons, hp c h]; rfl
  | c :: s => by
    rw [List.cons_append, List.takeWhile_cons, List.takeWhile_cons, tw_stop hp hx s]
theorem expo_stop {x : List UInt8} (hx : Stop x) (s : List UInt8) : expo (s ++ x) = expo s := by
  cases s with
  | nil =>
    rcases hx with rfl | ⟨c, r, rfl, h⟩
    · rfl
    · show expo (c :: r) = expo []
      have hc : ¬ (c = 101 ∨ c = 69) := by rcases blank_four h with rfl | rfl | rfl | rfl <;> decide
      unfold expo
      dsimp only
      rw [if_neg hc]
  | cons e l =>
    show expo (e :: (l ++ x)) = _
    have hs : sgn (l ++ x) = sgn l := by
      cases l with
      | nil =>
        rcases hx with rfl | ⟨c, r, rfl, h⟩
        · rfl
        · rcases blank_four h with rfl | rfl | rfl | rfl <;> rfl
      | cons c l => rfl
    have hd : (l ++ x).drop (sgn l) = l.drop (sgn l) ++ x := List.drop_append_of_le_length (sgn_le l)
    have hw := wh_stop (p := isDig) blank_dig hx (l.drop (sgn l))
    have ht : (l.drop (sgn l) ++ x).take (wh isDig (l.drop (sgn l))) = (l.drop (sgn l)).take (wh isDig (l.drop (sgn l))) := List.take_append_of_le_length (wh_le _ _)
    have hh : ((l ++ x).head? = some 45) = (l.head? = some 45) := by
      cases l with
      | nil =>
        rcases hx with rfl | ⟨c, r, rfl, h⟩
        · rfl
        · rcases blank_four h with rfl | rfl | rfl | rfl <;> simp
      | cons c l => rfl
    unfold expo
    dsimp only
    simp only [hs, hd, hw, ht, hh]
theorem number_stop {x : List UInt8} (hx : Stop x) (s : List UInt8) : number (s ++ x) = number s := by
  have w1 := wh_stop (p := isDig) blank_dig hx s
  have d1 : (s ++ x).drop (wh isDig s) = s.drop (wh isDig s) ++ x := List.drop_append_of_le_length (wh_le _ _)
  have hh : ((s.drop (wh isDig s) ++ x).head? = some 46) = ((s.drop (wh isDig s)).head? = some 46) := by
    cases s.drop (wh isDig s) with
    | nil =>
      rcases hx with rfl | ⟨c, r, rfl, h⟩
      · rfl
      · rcases blank_four h with rfl | rfl | rfl | rfl <;> simp
    | cons c l => rfl
  rw [number_eq (s ++ _), number_eq s, w1, d1]
  simp only [hh]
  by_cases h46 : (s.drop (wh isDig s)).head? = some 46
  · rw [if_pos h46, if_pos h46]
    have hlt : wh isDig s < s.length := by
      rcases Nat.lt_or_ge (wh isDig s) s.length with q | q
      · exact q
      · rw [List.drop_of_length_le q] at h46; cases h46
    have d2 : (s ++ x).drop (wh isDig s + 1) = s.drop (wh isDig s + 1) ++ x := List.drop_append_of_le_length (by omega)
    have w2 := wh_stop (p := isDig) blank_dig hx (s.drop (wh isDig s + 1))
    have hk := wh_le isDig (s.drop (wh isDig s + 1))
    rw [List.length_drop] at hk
    have d3 : (s ++ x).drop (wh isDig s + 1 + wh isDig (s.drop (wh isDig s + 1))) = s.drop (wh isDig s + 1 + wh isDig (s.drop (wh isDig s + 1))) ++ x := List.drop_append_of_le_length (by omega)
    rw [d2, w2, d3, expo_stop hx]
  · rw [if_neg h46, if_neg h46]
theorem txt_pos : ∀ (s : List UInt8), (txt s).1 = 7 → 1 ≤ (txt s).2
  | [], h => by cases h
  | [c], h => by
    simp only [txt] at h ⊢
    split at h
    · cases h
    split at h
    · rename_i h1 h2; rw [if_neg h1, if_pos h2]; exact Nat.le_refl _
    · cases h
  | c :: d :: l, h => by
    simp only [txt] at h ⊢
    split at h
    · cases h
    rename_i h1; rw [if_neg h1]
    split at h
    · rename_i h2; rw [if_pos h2]; exact Nat.le_refl _
    rename_i h2; rw [if_neg h2]
    split at h
    · rename_i h3; rw [if_pos h3]
      split at h
      · rename_i h4; rw [if_pos h4]; dsimp only; omega
      · cases h
    · rename_i h3; rw [if_neg h3]; dsimp only; omega
theorem txt_closed : ∀ {q x x' : List UInt8}, (txt (q ++ x)).1 = 7 → (txt (q ++ x)).2 ≤ q.length → txt (q ++ x') = txt (q ++ x)
  | [], x, x', h, h2 => by
    have := txt_pos _ h
    simp only [List.length_nil] at h2
    omega
  | [c], x, x', h, h2 => by
    have hc : c = 34 := by
      cases x with
      | nil =>
        simp only [List.append_nil, txt] at h
        split at h
        · cases h
        split at h
        · assumption
        · cases h
      | cons d l =>
        simp only [List.cons_append, List.nil_append, txt, List.length_cons, List.length_nil] at h h2
        split at h
        · cases h
        rename_i h1; rw [if_neg h1] at h2
        split at h
        · assumption
        rename_i h3; rw [if_neg h3] at h2
        split at h
        · rename_i h4; rw [if_pos h4] at h2
          split at h
          · rename_i h5; rw [if_pos h5] at h2
            dsimp only at h2
            omega
          · cases h
        · rename_i h4; rw [if_neg h4] at h2
          have := txt_pos _ h
          dsimp only at h2
          omega
    subst hc
    have e : ∀ y : List UInt8, txt (34 :: y) = (7, 1) := fun y => by
      cases y with
      | nil => rfl
      | cons d l =>
        simp only [txt]
        rw [if_neg (by decide), if_true]
    show txt (34 :: x') = txt (34 :: x)
    rw [e, e]
  | c :: d :: p, x, x', h, h2 => by
    have h : (txt (c :: d :: (p ++ x))).1 = 7 := h
    have h2 : (txt (c :: d :: (p ++ x))).2 ≤ p.length + 2 := h2
    show txt (c :: d :: (p ++ x')) = txt (c :: d :: (p ++ x))
    simp only [txt] at h h2 ⊢
    by_cases h1 : c = 10
    · rw [if_pos h1, if_pos h1]
    rw [if_neg h1] at h h2
    rw [if_neg h1, if_neg h1]
    by_cases h4 : c = 34
    · rw [if_pos h4, if_pos h4]
    rw [if_neg h4] at h h2
    rw [if_neg h4, if_neg h4]
    by_cases h3 : c = 92
    · rw [if_pos h3] at h h2
      rw [if_pos h3, if_pos h3]
      cases he : isEsc d with
      | true =>
        rw [he, if_pos rfl] at h h2
        simp only [if_true]
        dsimp only at h h2
        rw [txt_closed (q := p) (x := x) (x' := x') h (by omega)]
      | false =>
        rw [he, if_neg (by simp)] at h
        cases h
    · rw [if_neg h3] at h h2
      rw [if_neg h3, if_neg h3]
      dsimp only at h h2
      have := txt_closed (q := d :: p) (x := x) (x' := x') h (by
        show (txt (d :: (p ++ x))).2 ≤ p.length + 1
        omega)
      have this : txt (d :: (p ++ x')) = txt (d :: (p ++ x)) := this
      rw [this]
theorem txt_kind : ∀ (s : List UInt8), (txt s).1 = 7 ∨ (txt s).1 = 9
  | [] => .inr rfl
  | [c] => by
    simp only [txt]
    split
    · exact .inr rfl
    split
    · exact .inl rfl
    · exact .inr rfl
  | c :: d :: l => by
    simp only [txt]
    split
    · exact .inr rfl
    split
    · exact .inl rfl
    split
    · split
      · exact txt_kind l
      · exact .inr rfl
    · exact txt_kind (d :: l)
theorem cut_sw {p x x' : List UInt8} (hp : p ≠ []) (hx : Stop x) (hx' : Stop x') (h1 : (cut (p ++ x)).1 ≠ 1) (h9 : (cut (p ++ x)).1 ≠ 9) (hn : (cut (p ++ x)).2 ≤ p.length) : cut (p ++ x') = cut (p ++ x) := by
  cases p with
  | nil => exact absurd rfl hp
  | cons c l =>
    rw [List.cons_append, cut_cons] at h1 h9 hn
    rw [List.cons_append, List.cons_append, cut_cons, cut_cons]
    have two : ∀ {w : List UInt8}, w.length = 2 → (∀ d, isBlank d = true → w ≠ [c, d]) → ((c :: (l ++ x')).take 2 = w) = ((c :: (l ++ x)).take 2 = w) := by
      intro w hw hd
      cases l with
      | cons d l => rfl
      | nil =>
        have key : ∀ {y : List UInt8}, Stop y → ((c :: ([] ++ y)).take 2 = w) = False := by
          intro y hy
          rcases hy with rfl | ⟨d, r, rfl, hb⟩
          · refine eq_false fun e => ?_
            rw [← e] at hw; cases hw
          · exact eq_false fun e => hd d hb e.symm
        rw [key hx, key hx']
    have hrem := two (w := [40, 42]) rfl (fun d hb e => by
      have : d = 42 := by simpa using (congrArg (fun l : List UInt8 => l.getD 1 0) e).symm
      subst this; cases hb)
    have htwo : twos.contains ((c :: (l ++ x')).take 2) = twos.contains ((c :: (l ++ x)).take 2) := by
      have h2 : ∀ w ∈ twos, ((c :: (l ++ x')).take 2 = w) = ((c :: (l ++ x)).take 2 = w) := fun w hw => two (by
        simp only [twos, List.mem_cons, List.mem_nil_iff, or_false] at hw
        rcases hw with rfl | rfl | rfl | rfl | rfl | rfl | rfl | rfl | rfl | rfl | rfl <;> rfl) (fun d hb e => by
        subst e
        simp only [twos, List.mem_cons, List.mem_nil_iff, or_false, List.cons.injEq, and_true] at hw
        rcases blank_four hb with rfl | rfl | rfl | rfl <;> simp at hw)
      rw [Bool.eq_iff_iff, List.contains_iff_mem, List.contains_iff_mem]
      constructor
      · intro h
        have := h2 _ h
        rw [eq_true (rfl : (c :: (l ++ x')).take 2 = _)] at this
        rw [of_eq_true this.symm]; exact h
      · intro h
        have := h2 _ h
        rw [eq_true (rfl : (c :: (l ++ x)).take 2 = _)] at this
        rw [of_eq_true this]; exact h
    unfold cutR at h1 h9 hn ⊢
    by_cases hb : isBlank c = true
    · rw [if_pos hb] at h1; exact absurd rfl h1
    rw [if_neg hb] at h1 h9 hn
    rw [if_neg hb, if_neg hb]
    simp only [hrem]
    by_cases hr : (c :: (l ++ x)).take 2 = [40, 42]
    · rw [if_pos hr] at h1 h9 hn
      rw [if_pos hr, if_pos hr]
      cases l with
      | nil =>
        exfalso
        rcases hx with rfl | ⟨d, r, rfl, hbd⟩
        · cases hr
        · have : d = 42 := by simpa using congrArg (fun l : List UInt8 => l.getD 1 0) hr
          subst this; cases hbd
      | cons d l =>
        have e : ∀ y : List UInt8, (c :: (d :: l ++ y)).drop 2 = l ++ y := fun _ => rfl
        rw [e] at h9 hn
        rw [e, e]
        cases hm : rem (l ++ x) 1 with
        | none => rw [hm] at h9; exact absurd rfl h9
        | some m =>
          rw [hm] at hn
          dsimp only at hn
          rw [rem_pre (y' := x') hm (by simp at hn; omega)]
    rw [if_neg hr] at h1 h9 hn
    rw [if_neg hr, if_neg hr]
    by_cases hlow : isLow c = true
    · rw [if_pos hlow, if_pos hlow]
      have w1 := wh_stop (p := isBeh) blank_beh hx (c :: l)
      have w2 := wh_stop (p := isBeh) blank_beh hx' (c :: l)
      have t1 := tw_stop (p := isBeh) blank_beh hx (c :: l)
      have t2 := tw_stop (p := isBeh) blank_beh hx' (c :: l)
      rw [List.cons_append] at w1 w2 t1 t2
      rw [w1, w2, t1, t2]
    rw [if_neg hlow] at h1 h9 hn
    rw [if_neg hlow, if_neg hlow]
    by_cases hdig : isDig c = true
    · rw [if_pos hdig, if_pos hdig]
      have n1 := number_stop hx (c :: l)
      have n2 := number_stop hx' (c :: l)
      rw [List.cons_append] at n1 n2
      rw [n1, n2]
    rw [if_neg hdig] at h1 h9 hn
    rw [if_neg hdig, if_neg hdig]
    by_cases hq : c = 34
    · rw [if_pos hq] at h1 h9 hn
      rw [if_pos hq, if_pos hq]
      dsimp only at h9 hn
      have h7 : (txt (l ++ x)).1 = 7 := (txt_kind _).resolve_right h9
      rw [txt_closed (x' := x') h7 (by simp at hn; omega)]
    rw [if_neg hq] at h1 h9 hn
    rw [if_neg hq, if_neg hq, htwo]
    by_cases ht : twos.contains ((c :: (l ++ x)).take 2) = true
    · rw [if_pos ht, if_pos ht]
    rw [if_neg ht] at h1 h9 hn
    rw [if_neg ht, if_neg ht]
    by_cases ho : isOne c = true
    · rw [if_pos ho, if_pos ho]
    · rw [if_neg ho] at h9
      exact absurd rfl h9
end Go.Lex
/- Blanks of another kind in a text: the same tokens but for blanks. -/
namespace Go.Parse
open Go.VM Go.Lex

/-- A token whose text is another one, if it is a blank. -/
def reB (B : List UInt8) (t : Tok) : Tok := if t.1 = 1 then (1, B) else t
theorem reB_mild (B : List UInt8) : Mild (reB B) where
  kind t := by
    unfold reB
    split
    · rename_i h; exact h.symm
    · rfl
  same t h := by
    unfold reB
    rw [if_neg]
    intro e
    simp [trivB, e] at h
def bytesB (B : List UInt8) (l : List Tok) : List UInt8 := bytesL (l.map (reB B))
theorem bytesB_cons (B : List UInt8) (t : Tok) (l : List Tok) : bytesB B (t :: l) = (reB B t).2 ++ bytesB B l := by simp [bytesB, bytesL]
theorem bytesL_cons (t : Tok) (l : List Tok) : bytesL (t :: l) = t.2 ++ bytesL l := by simp [bytesL]
theorem bytes_tokens (s : List UInt8) : bytesL (tokens s) = s := by
  have := tokens_join s.length s (Nat.le_refl _)
  simpa [bytesL, List.flatMap] using this
/-- A text's tokens, one by one. -/
theorem tokens_step {c : UInt8} {l : List UInt8} : tokens (c :: l) = ((cut (c :: l)).1, (c :: l).take (cut (c :: l)).2) :: tokens ((c :: l).drop (cut (c :: l)).2) := by
  have hc := cut_le (s := c :: l) (by simp)
  show toks (c :: l).length (c :: l) = _
  simp only [List.length_cons, toks]
  congr 1
  refine toks_fuel _ _ _ ?_ (Nat.le_refl _)
  rw [List.length_drop]
  simp only [List.length_cons] at hc ⊢
  omega
/-- What stands ahead of the next blank. -/
theorem ahead_of : ∀ (G : List Tok), ∃ p G2, bytesL G = p ++ bytesL G2 ∧ (∀ B, bytesB B G = p ++ bytesB B G2) ∧ (G2 = [] ∨ ∃ t r, G2 = t :: r ∧ t ∈ G ∧ t.1 = 1)
  | [] => ⟨[], [], rfl, fun _ => rfl, .inl rfl⟩
  | t :: G => by
    by_cases h : t.1 = 1
    · exact ⟨[], t :: G, rfl, fun _ => rfl, .inr ⟨t, G, rfl, List.mem_cons_self, h⟩⟩
    · obtain ⟨p, G2, h1, h2, h3⟩ := ahead_of G
      refine ⟨t.2 ++ p, G2, by rw [bytesL_cons, h1, List.append_assoc], fun B => ?_, ?_⟩
      · rw [bytesB_cons, h2, List.append_assoc]
        congr 1
        unfold reB
        rw [if_neg h]
      · rcases h3 with rfl | ⟨u, r, e, hu, h1⟩
        · exact .inl rfl
        · exact .inr ⟨u, r, e, List.mem_cons_of_mem _ hu, h1⟩
theorem tok_blank : ∀ (n : Nat) (s : List UInt8), s.length ≤ n → ∀ t ∈ tokens s, t.1 = 1 → ∃ b r, t.2 = b :: r ∧ isBlank b = true
  | _, [], _, t, ht, _ => by cases ht
  | 0, c :: l, h, _, _, _ => by simp at h
  | n + 1, c :: l, h, t, ht, h1 => by
    have hc := cut_le (s := c :: l) (by simp)
    rw [tokens_step] at ht
    rcases List.mem_cons.1 ht with rfl | ht
    · have hb := (cut_blank h1).1
      obtain ⟨m, hm⟩ : ∃ m, (cut (c :: l)).2 = m + 1 := ⟨(cut (c :: l)).2 - 1, by omega⟩
      refine ⟨c, l.take m, ?_, hb⟩
      show (c :: l).take (cut (c :: l)).2 = _
      rw [hm, List.take_succ_cons]
    · refine tok_blank n _ ?_ t ht h1
      rw [List.length_drop]
      simp only [List.length_cons] at h ⊢
      omega
theorem wh_all {p : UInt8 → Bool} : ∀ {B : List UInt8}, wh p B = B.length → ∀ {x : List UInt8}, wh p x = 0 → wh p (B ++ x) = B.length := fun {B} h {x} hx => by
  rw [wh_app, if_pos h, hx, Nat.add_zero]
theorem wh_drop_self (p : UInt8 → Bool) (s : List UInt8) : wh p (s.drop (wh p s)) = 0 := by
  rw [wh_drop]
  cases h : s.dropWhile p with
  | nil => rfl
  | cons c l =>
    have := List.head_dropWhile_not p (l := s) (by rw [h]; simp)
    simp only [h, List.head_cons] at this
    simp [wh, this]
theorem wh_zero {p : UInt8 → Bool} {c : UInt8} {l : List UInt8} (h : p c = false) : wh p (c :: l) = 0 := by simp [wh, h]
theorem tokens_re {B : List UInt8} (hB : B ≠ []) (hw : wh isBlank B = B.length) (hv : validS B = true) : ∀ (n : Nat) (s : List UInt8), s.length ≤ n → validS s = true → (∀ t ∈ tokens s, t.1 ≠ 9) →
    tokens (bytesB B (tokens s)) = (tokens s).map (reB B) ∧ validS (bytesB B (tokens s)) = true
  | _, [], _, _, _ => ⟨rfl, rfl⟩
  | 0, c :: l, h, _, _ => by simp at h
  | n + 1, c :: l, h, hs, h9 => by
    have hc := cut_le (s := c :: l) (by simp)
    have hcv := cut_valid (s := c :: l) (by simp) hs
    have hst := tokens_step (c := c) (l := l)
    have hbt := bytes_tokens (c :: l)
    have hbl := tok_blank _ (c :: l) (Nat.le_refl _)
    obtain ⟨b0, B', rfl⟩ : ∃ b r, B = b :: r := by
      cases B with
      | nil => exact absurd rfl hB
      | cons b r => exact ⟨b, r, rfl⟩
    have hb0 : isBlank b0 = true := by
      cases hb : isBlank b0 with
      | true => rfl
      | false => rw [wh_zero hb] at hw; simp at hw
    generalize hm : (cut (c :: l)).2 = m at *
    generalize hk : (cut (c :: l)).1 = k at *
    have hlen : ((c :: l).drop m).length ≤ n := by
      rw [List.length_drop]
      simp only [List.length_cons] at h ⊢
      omega
    have hs2 : (c :: l) = (c :: l).take m ++ (c :: l).drop m := (List.take_append_drop m _).symm
    have hml : ((c :: l).take m).length = m := by rw [List.length_take]; omega
    generalize ht : (c :: l).take m = t at *
    generalize hd : (c :: l).drop m = s2 at *
    rw [hst] at h9 hbl hbt ⊢
    obtain ⟨ih1, ih2⟩ := tokens_re hB hw hv n s2 hlen hcv.2 (fun u hu => h9 u (List.mem_cons_of_mem _ hu))
    rw [bytesB_cons, List.map_cons]
    by_cases h1 : k = 1
    · subst h1
      have hre : reB (b0 :: B') (1, t) = (1, b0 :: B') := by unfold reB; rw [if_pos rfl]
      rw [hre]
      have hcb := cut_blank hk
      have hmw : m = wh isBlank (c :: l) := by rw [← hm, hcb.2]
      have hz : wh isBlank s2 = 0 := by
        rw [← hd, hmw]
        have := wh_drop_self isBlank (c :: l)
        exact this
      have hz' : wh isBlank (bytesB (b0 :: B') (tokens s2)) = 0 := by
        cases s2 with
        | nil => rfl
        | cons c2 l2 =>
          have hnb : isBlank c2 = false := by
            cases hb : isBlank c2 with
            | false => rfl
            | true => simp [wh, hb] at hz
          have hc2 := cut_le (s := c2 :: l2) (by simp)
          have hk2 : (cut (c2 :: l2)).1 ≠ 1 := fun e => by
            have := (cut_blank e).1
            rw [hnb] at this
            cases this
          rw [tokens_step, bytesB_cons]
          unfold reB
          rw [if_neg hk2]
          obtain ⟨j, hj⟩ : ∃ j, (cut (c2 :: l2)).2 = j + 1 := ⟨(cut (c2 :: l2)).2 - 1, by omega⟩
          rw [hj]
          exact wh_zero hnb
      refine ⟨?_, by rw [valid_app _ _ _ (Nat.le_refl _) hv]; exact ih2⟩
      have hcut : cut (b0 :: (B' ++ bytesB (b0 :: B') (tokens s2))) = (1, (b0 :: B').length) := by
        have e : wh isBlank (b0 :: (B' ++ bytesB (b0 :: B') (tokens s2))) = (b0 :: B').length := wh_all hw hz'
        rw [← e]
        simp only [cut, hb0, if_true]
      show tokens (b0 :: (B' ++ bytesB (b0 :: B') (tokens s2))) = _
      rw [tokens_step, hcut]
      have e1 : (b0 :: (B' ++ bytesB (b0 :: B') (tokens s2))).take (b0 :: B').length = b0 :: B' := List.take_left (l₁ := b0 :: B')
      have e2 : (b0 :: (B' ++ bytesB (b0 :: B') (tokens s2))).drop (b0 :: B').length = bytesB (b0 :: B') (tokens s2) := List.drop_left (l₁ := b0 :: B')
      rw [e1, e2, ih1]
    · have hre : reB (b0 :: B') (k, t) = (k, t) := by unfold reB; rw [if_neg h1]
      rw [hre]
      have hk9 : k ≠ 9 := h9 (k, t) List.mem_cons_self
      obtain ⟨p, G2, a1, a2, a3⟩ := ahead_of (tokens s2)
      have hx : Stop (bytesL G2) := by
        rcases a3 with rfl | ⟨u, r, rfl, hm2, hu⟩
        · exact .inl rfl
        · obtain ⟨b, q, e, hb⟩ := hbl u (List.mem_cons_of_mem _ hm2) hu
          exact .inr ⟨b, q ++ bytesL r, by rw [bytesL_cons, e]; rfl, hb⟩
      have hx' : Stop (bytesB (b0 :: B') G2) := by
        rcases a3 with rfl | ⟨u, r, rfl, _, hu⟩
        · exact .inl rfl
        · refine .inr ⟨b0, B' ++ bytesB (b0 :: B') r, ?_, hb0⟩
          rw [bytesB_cons]
          unfold reB
          rw [if_pos hu]
          rfl
      have e0 : c :: l = (t ++ p) ++ bytesL G2 := by
        rw [List.append_assoc, ← a1, bytes_tokens]
        exact hs2
      have ha2 := a2 (b0 :: B')
      have hcut : cut (t ++ bytesB (b0 :: B') (tokens s2)) = (k, m) := by
        rw [ha2, ← List.append_assoc]
        have e := cut_sw (p := t ++ p) (x := bytesL G2) (x' := bytesB (b0 :: B') G2) (by
          intro e
          have := (List.append_eq_nil_iff.1 e).1
          rw [this] at hml
          simp at hml
          omega) hx hx' (by rw [← e0, hk]; exact h1) (by rw [← e0, hk]; exact hk9) (by rw [← e0, hm, List.length_append, hml]; omega)
        rw [e, ← e0, ← hk, ← hm]
      refine ⟨?_, by rw [valid_app _ _ _ (Nat.le_refl _) hcv.1]; exact ih2⟩
      obtain ⟨c0, t', rfl⟩ : ∃ b r, t = b :: r := by
        cases t with
        | nil => simp at hml; omega
        | cons b r => exact ⟨b, r, rfl⟩
      show tokens (c0 :: (t' ++ bytesB (b0 :: B') (tokens s2))) = _
      have hcut : cut (c0 :: (t' ++ bytesB (b0 :: B') (tokens s2))) = (k, m) := hcut
      rw [tokens_step, hcut]
      have e1 : (c0 :: (t' ++ bytesB (b0 :: B') (tokens s2))).take m = c0 :: t' := by rw [← hml]; exact List.take_left (l₁ := c0 :: t')
      have e2 : (c0 :: (t' ++ bytesB (b0 :: B') (tokens s2))).drop m = bytesB (b0 :: B') (tokens s2) := by rw [← hml]; exact List.drop_left (l₁ := c0 :: t')
      rw [e1, e2, ih1]
end Go.Parse
/- What is told of a document's tree and of its tokens alike: text, other blanks, tokens that are none. -/
set_option linter.unusedSimpArgs false
namespace Go.Parse
open Go.VM Go.Lex

theorem skip_gen {α : Type} {F1 : T → List α} {F : List T → List α} {G : List Tok → List α} (hm : Meas F1 F G) : ∀ (n : Nat) (r : List Tok), F (skip n r).1 ++ G (skip n r).2 = G r
  | 0, r => by simp [skip, hm.nil]
  | n + 1, r => by
    simp only [skip]
    split
    · simp only [hm.cons, List.append_assoc, skip_gen hm n (takeR r), hm.take]
    · simp [hm.nil]
theorem decls_gen {α : Type} {F1 : T → List α} {F : List T → List α} {G : List Tok → List α} (hm : Meas F1 F G) (h0 : G [] = []) : ∀ (n : Nat) (r : List Tok) (l : List T), decls n r = some l → NoZ r → F l = G r
  | 0, _, _, h, _ => by cases h
  | n + 1, r, l, h, hz => by
    simp only [decls] at h
    split at h
    · rename_i hn
      cases h
      have := hm.take r
      rw [nx_zero hz hn, h0, List.append_nil] at this
      rw [hm.one, this]
    split at h
    · obtain ⟨⟨bs, r1⟩, e1, h⟩ := bind_some h
      obtain ⟨m, e2, h⟩ := bind_some h
      cases h
      have k1 := P_gen hm _ _ _ _ _ _ e1
      have k2 := decls_gen hm h0 n r1 m e2 (P_inv noZ_take _ _ _ _ _ _ e1 (noZ_take _ hz))
      simp only [accOf, hm.nil, List.nil_append] at k1
      rw [hm.cons, hm.node (by decide), hm.cons, List.append_assoc, k2, k1, hm.take]
    · obtain ⟨m, e2, h⟩ := bind_some h
      cases h
      have k2 := decls_gen hm h0 n _ m e2 (skip_inv noZ_take _ _ hz)
      rw [hm.cons, hm.node (by decide), k2, skip_gen hm]
theorem doc_gen {α : Type} {F1 : T → List α} {F : List T → List α} {G : List Tok → List α} (hm : Meas F1 F G) (h0 : G [] = []) (r : List Tok) (h : NoZ r) : F1 (doc r) = G r := by
  obtain ⟨l, e1, e2⟩ := doc_tot r
  rw [e2, hm.node (by decide), decls_gen hm h0 _ _ _ e1 h]
theorem nameK_pos (w : List UInt8) : nameK w ≠ 0 := by
  unfold nameK
  split
  · decide
  split <;> decide
theorem cut_pos {s : List UInt8} (h : s ≠ []) : (cut s).1 ≠ 0 := by
  cases s with
  | nil => exact absurd rfl h
  | cons c l =>
    unfold cut
    dsimp only
    split
    · exact fun e => by cases e
    split
    · cases rem (List.drop 2 (c :: l)) 1 <;> exact fun e => by cases e
    split
    · exact nameK_pos _
    split
    · have hnum : (number (c :: l)).1 ≠ 0 := by
        unfold number
        dsimp only
        split
        · split <;> exact fun e => by cases e
        · exact fun e => by cases e
      exact hnum
    split
    · have := txt_kind l
      show (txt l).1 ≠ 0
      omega
    split
    · exact fun e => by cases e
    split <;> exact fun e => by cases e
theorem toks_noZ : ∀ (n : Nat) (s : List UInt8), ∀ p ∈ toks n s, p.1 ≠ 0
  | 0, _, p, h => by simp [toks] at h
  | n + 1, [], p, h => by simp [toks] at h
  | n + 1, c :: l, p, h => by
    simp only [toks, List.mem_cons] at h
    rcases h with rfl | h
    · exact cut_pos (by simp)
    · exact toks_noZ n _ p h
theorem tokens_noZ (s : List UInt8) : NoZ (tokens s) := toks_noZ _ s
theorem meas_take {α : Type} {F1 : T → List α} {F : List T → List α} {g : Tok → List α} (hn : F [] = []) (hc : ∀ t l, F (t :: l) = F1 t ++ F l) (h0 : ∀ t, trivB t = true → F1 (leaf0 t) = g t) (h1 : ∀ t ks, trivB t = false → F1 (leaf t ks) = F ks ++ g t) (hz : ∀ ks, F1 (leaf (0, []) ks) = F ks) (r : List Tok) :
    F1 (takeT r) ++ (takeR r).flatMap g = r.flatMap g := by
  have hl : ∀ l : List Tok, (∀ t ∈ l, trivB t = true) → F (l.map leaf0) = l.flatMap g := by
    intro l
    induction l with
    | nil => intro _; exact hn
    | cons t l ih =>
      intro h
      rw [List.map_cons, hc, h0 t (h t List.mem_cons_self), ih fun u hu => h u (List.mem_cons_of_mem _ hu)]
      simp
  have hf := hl (r.takeWhile trivB) fun t ht => tw_mem ht
  have e : r.flatMap g = (r.takeWhile trivB).flatMap g ++ (r.dropWhile trivB).flatMap g := by
    rw [← List.flatMap_append, List.takeWhile_append_dropWhile]
  unfold takeT takeR
  cases hd : r.dropWhile trivB with
  | nil =>
    have hx : nx r = (0, []) := by unfold nx; rw [hd]
    rw [hx, hz, hf, e, hd]
    rfl
  | cons t l =>
    have hx : nx r = t := by unfold nx; rw [hd]
    have ht : trivB t = false := by
      have := List.head_dropWhile_not trivB (l := r) (by rw [hd]; simp)
      simpa only [hd, List.head_cons] using this
    rw [hx, h1 t _ ht, hf, e, hd]
    simp
mutual
/-- A tree's text with other blanks. -/
def blT (B : List UInt8) : T → List UInt8
  | .mk k _ tx l => blL B l ++ (if k = 1 then tx else [])
def blL (B : List UInt8) : List T → List UInt8
  | [] => []
  | .mk k tk tx m :: l => (if k = 1 ∧ tk = 1 then B else blT B (.mk k tk tx m)) ++ blL B l
end
def bl1 (B : List UInt8) : T → List UInt8
  | .mk k tk tx m => if k = 1 ∧ tk = 1 then B else blT B (.mk k tk tx m)
theorem blL_cons (B : List UInt8) (t : T) (l : List T) : blL B (t :: l) = bl1 B t ++ blL B l := by
  cases t with
  | mk k tk tx m => simp only [blL, bl1]
mutual
/-- Tokens that are none. -/
def bdT : T → List Unit
  | .mk k tk _ l => bdL l ++ (if k = 1 ∧ tk = 9 then [()] else [])
def bdL : List T → List Unit
  | [] => []
  | t :: l => bdT t ++ bdL l
end
theorem bl_meas (B : List UInt8) : Meas (bl1 B) (blL B) (bytesB B) where
  nil := by simp [blL]
  cons t l := blL_cons B t l
  node := fun {k} hk l => by
    simp only [node, bl1, blT]
    rw [if_neg (fun h => hk h.1), if_neg hk, List.append_nil]
  miss s := by simp [missing, bl1, blT, blL]
  take r := by
    have e : ∀ l, bytesB B l = l.flatMap fun t => (reB B t).2 := fun l => by
      induction l with
      | nil => rfl
      | cons t l ih => rw [bytesB_cons, ih]; rfl
    rw [e, e]
    refine meas_take (by simp [blL]) (blL_cons B) (fun t ht => ?_) (fun t ks ht => ?_) (fun ks => ?_) r
    · simp only [leaf0, leaf, bl1, blT, blL, List.nil_append, true_and, if_true]
      unfold reB
      split <;> rfl
    · have h1 : t.1 ≠ 1 := fun e => by simp [trivB, e] at ht
      simp only [leaf, bl1, blT, true_and, if_true]
      unfold reB
      rw [if_neg h1, if_neg h1]
    · simp [leaf, bl1, blT]
theorem bl_doc (B : List UInt8) (s : List UInt8) : blT B (doc (tokens s)) = bytesB B (tokens s) := by
  have h := doc_gen (bl_meas B) rfl (tokens s) (tokens_noZ s)
  obtain ⟨l, _, e2⟩ := doc_tot (tokens s)
  rw [e2] at h ⊢
  simp only [node, bl1] at h
  rw [if_neg (fun e => by cases e.1)] at h
  exact h
theorem bd_meas : Meas bdT bdL (fun r => r.flatMap fun t => if t.1 = 9 then [()] else []) where
  nil := by simp [bdL]
  cons t l := by simp [bdL]
  node := fun {k} hk l => by
    simp only [node, bdT]
    rw [if_neg (fun h => hk h.1), List.append_nil]
  miss s := by simp [missing, bdT, bdL]
  take r := by
    refine meas_take (F1 := bdT) (F := bdL) (g := fun t => if t.1 = 9 then [()] else []) (by simp only [bdL]) (fun t l => by simp only [bdL]) (fun t ht => ?_) (fun t ks ht => ?_) (fun ks => ?_) r
    · simp only [leaf0, leaf, bdT, bdL, List.nil_append, true_and]
    · simp only [leaf, bdT, true_and]
    · simp [leaf, bdT]
/-- A text's tree without tokens that are none. -/
theorem bd_doc (s : List UInt8) (h : bdT (doc (tokens s)) = []) : ∀ t ∈ tokens s, t.1 ≠ 9 := by
  rw [doc_gen bd_meas rfl (tokens s) (tokens_noZ s)] at h
  intro t ht e
  have := List.flatMap_eq_nil_iff.1 h t ht
  rw [if_pos e] at this
  cases this
/-- Blanks of another kind: the same shape. -/
theorem blanks_shape {s B : List UInt8} (hs : validS s = true) (hB : B ≠ []) (hw : wh isBlank B = B.length) (hv : validS B = true) (hb : bdT (doc (tokens s)) = []) :
    validS (blT B (doc (tokens s))) = true ∧ shapeT (doc (tokens (blT B (doc (tokens s))))) = shapeT (doc (tokens s)) := by
  obtain ⟨h1, h2⟩ := tokens_re hB hw hv s.length s (Nat.le_refl _) hs (bd_doc s hb)
  rw [bl_doc, h1]
  exact ⟨h2, doc_map (reB_mild B) _⟩
end Go.Parse
/- Two documents, one behind the other. -/
set_option linter.unusedSimpArgs false
namespace Go.Parse
open Go.VM Go.Lex

end Go.Parse
