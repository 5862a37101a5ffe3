/-
  A part of the proof.
-/
import Derived.Test.YtcghfoagjphaoaaGreatDoorVmBE
import Derived.Test.YtcghfoagjphaoaaGreatDoorVmBA
import Derived.Lib.TrimUEq
import Derived.Lib.AtoiAll
/- UTF-8 by its bytes: how many bytes a character has; what is valid; how many characters. -/
namespace Go.VM
open Go.Lib
/-- How many bytes the character has that begins with these; 0: there is none. -/
def szN (n b0 b1 b2 b3 : Nat) : Nat :=
  if b0 < 128 then 1
  else if 194 ≤ b0 ∧ b0 ≤ 223 then (if n < 2 ∨ b1 < 128 ∨ 191 < b1 then 0 else 2)
  else if 224 ≤ b0 ∧ b0 ≤ 239 then (if n < 3 ∨ b1 < 128 ∨ 191 < b1 ∨ b2 < 128 ∨ 191 < b2 ∨ (b0 = 224 ∧ b1 < 160) ∨ (b0 = 237 ∧ 159 < b1) then 0 else 3)
  else if 240 ≤ b0 ∧ b0 ≤ 244 then (if n < 4 ∨ b1 < 128 ∨ 191 < b1 ∨ b2 < 128 ∨ 191 < b2 ∨ b3 < 128 ∨ 191 < b3 ∨ (b0 = 240 ∧ b1 < 144) ∨ (b0 = 244 ∧ 143 < b1) then 0 else 4)
  else 0
set_option maxHeartbeats 2000000 in
theorem szN_decode {n b0 b1 b2 b3 : Nat} (h0 : b0 < 256) (h1 : b1 < 256) (h2 : b2 < 256) (h3 : b3 < 256) :
    (szN n b0 b1 b2 b3 = 0 ∧ decodeN n b0 b1 b2 b3 = (65533, 1)) ∨ (szN n b0 b1 b2 b3 = 1 ∧ b0 < 128 ∧ decodeN n b0 b1 b2 b3 = (b0, 1)) ∨ (2 ≤ szN n b0 b1 b2 b3 ∧ (decodeN n b0 b1 b2 b3).2 = szN n b0 b1 b2 b3) := by
  by_cases c0 : b0 < 128
  · refine .inr (.inl ⟨?_, c0, ?_⟩)
    · unfold szN; rw [if_pos c0]
    · unfold decodeN; rw [if_pos c0]
  by_cases z : szN n b0 b1 b2 b3 = 0
  · refine .inl ⟨z, ?_⟩
    unfold szN at z
    unfold decodeN
    repeat' split
    all_goals first | rfl | (exfalso; (repeat' (split at z)); all_goals omega)
  · have hc : (szN n b0 b1 b2 b3 = 2 ∧ (194 ≤ b0 ∧ b0 ≤ 223) ∧ ¬ (n < 2 ∨ b1 < 128 ∨ 191 < b1)) ∨
        (szN n b0 b1 b2 b3 = 3 ∧ (224 ≤ b0 ∧ b0 ≤ 239) ∧ ¬ (n < 3 ∨ b1 < 128 ∨ 191 < b1 ∨ b2 < 128 ∨ 191 < b2 ∨ (b0 = 224 ∧ b1 < 160) ∨ (b0 = 237 ∧ 159 < b1))) ∨
        (szN n b0 b1 b2 b3 = 4 ∧ (240 ≤ b0 ∧ b0 ≤ 244) ∧ ¬ (n < 4 ∨ b1 < 128 ∨ 191 < b1 ∨ b2 < 128 ∨ 191 < b2 ∨ b3 < 128 ∨ 191 < b3 ∨ (b0 = 240 ∧ b1 < 144) ∨ (b0 = 244 ∧ 143 < b1))) := by
      unfold szN at z ⊢
      rw [if_neg c0] at z ⊢
      by_cases c1 : 194 ≤ b0 ∧ b0 ≤ 223
      · rw [if_pos c1] at z ⊢
        by_cases d : n < 2 ∨ b1 < 128 ∨ 191 < b1
        · rw [if_pos d] at z; omega
        · rw [if_neg d]; exact .inl ⟨rfl, c1, d⟩
      rw [if_neg c1] at z ⊢
      by_cases c2 : 224 ≤ b0 ∧ b0 ≤ 239
      · rw [if_pos c2] at z ⊢
        by_cases d : n < 3 ∨ b1 < 128 ∨ 191 < b1 ∨ b2 < 128 ∨ 191 < b2 ∨ (b0 = 224 ∧ b1 < 160) ∨ (b0 = 237 ∧ 159 < b1)
        · rw [if_pos d] at z; omega
        · rw [if_neg d]; exact .inr (.inl ⟨rfl, c2, d⟩)
      rw [if_neg c2] at z ⊢
      by_cases c3 : 240 ≤ b0 ∧ b0 ≤ 244
      · rw [if_pos c3] at z ⊢
        by_cases d : n < 4 ∨ b1 < 128 ∨ 191 < b1 ∨ b2 < 128 ∨ 191 < b2 ∨ b3 < 128 ∨ 191 < b3 ∨ (b0 = 240 ∧ b1 < 144) ∨ (b0 = 244 ∧ 143 < b1)
        · rw [if_pos d] at z; omega
        · rw [if_neg d]; exact .inr (.inr ⟨rfl, c3, d⟩)
      · rw [if_neg c3] at z; omega
    refine .inr (.inr ?_)
    rcases hc with ⟨e, c, d⟩ | ⟨e, c, d⟩ | ⟨e, c, d⟩
    all_goals
      rw [e]
      refine ⟨by omega, ?_⟩
      unfold decodeN
      repeat' split
      all_goals first | rfl | (exfalso; omega)
theorem szN_le {n b0 b1 b2 b3 : Nat} (h : 1 ≤ n) : szN n b0 b1 b2 b3 ≤ n := by
  unfold szN
  repeat' split
  all_goals omega
def szL (l : List UInt8) : Nat := szN l.length (l.getD 0 0).toNat (l.getD 1 0).toNat (l.getD 2 0).toNat (l.getD 3 0).toNat
theorem szL_decode (l : List UInt8) : (szL l = 0 ∧ decodeL l = (65533, 1)) ∨ (szL l = 1 ∧ (l.getD 0 0).toNat < 128 ∧ decodeL l = ((l.getD 0 0).toNat, 1)) ∨ (2 ≤ szL l ∧ (decodeL l).2 = szL l) := by
  unfold szL
  rw [decodeL_N]
  exact szN_decode (UInt8.toNat_lt _) (UInt8.toNat_lt _) (UInt8.toNat_lt _) (UInt8.toNat_lt _)
theorem szL_le {l : List UInt8} (h : l ≠ []) : szL l ≤ l.length := szN_le (List.length_pos_iff.2 h)
/-- Valid: character by character (so many of them at most). -/
def validF : Nat → List UInt8 → Bool
  | 0, _ => true
  | n + 1, l => if l = [] then true else if szL l = 0 then false else validF n (l.drop (szL l))
theorem validF_eq : ∀ (n : Nat) (l : List UInt8), validGoD n l = validF n l
  | 0, _ => rfl
  | n + 1, l => by
    unfold validGoD validF
    by_cases h : l = []
    · rw [if_pos h, if_pos h]
    rw [if_neg h, if_neg h]
    rcases szL_decode l with ⟨h1, h2⟩ | ⟨h1, h2, h3⟩ | ⟨h1, h2⟩
    · have hd : (decodeL l).1 = 65533 ∧ (decodeL l).2 = 1 := by rw [h2]; exact ⟨rfl, rfl⟩
      rw [if_pos hd, if_pos h1]
    · have hd : ¬ ((decodeL l).1 = 65533 ∧ (decodeL l).2 = 1) := by rw [h3]; show ¬ ((l.getD 0 0).toNat = 65533 ∧ _); omega
      have hz : ¬ szL l = 0 := by omega
      rw [if_neg hd, if_neg hz, h3, h1]; exact validF_eq n _
    · have hd : ¬ ((decodeL l).1 = 65533 ∧ (decodeL l).2 = 1) := by omega
      have hz : ¬ szL l = 0 := by omega
      rw [if_neg hd, if_neg hz, h2]; exact validF_eq n _
def validS (l : List UInt8) : Bool := validF l.length l
theorem validS_eq (l : List UInt8) : validD l = validS l := validF_eq _ _
theorem validF_fuel : ∀ (n m : Nat) (l : List UInt8), l.length ≤ n → l.length ≤ m → validF n l = validF m l
  | 0, 0, _, _, _ => rfl
  | 0, m + 1, l, h, _ => by
    have : l = [] := List.eq_nil_of_length_eq_zero (by omega)
    subst this
    simp [validF]
  | n + 1, 0, l, _, h => by
    have : l = [] := List.eq_nil_of_length_eq_zero (by omega)
    subst this
    simp [validF]
  | n + 1, m + 1, l, hn, hm => by
    unfold validF
    by_cases h : l = []
    · rw [if_pos h, if_pos h]
    rw [if_neg h, if_neg h]
    by_cases hz : szL l = 0
    · rw [if_pos hz, if_pos hz]
    · rw [if_neg hz, if_neg hz, validF_fuel n m _ (by rw [List.length_drop]; omega) (by rw [List.length_drop]; omega)]
theorem validS_step {l : List UInt8} (h : l ≠ []) : validS l = if szL l = 0 then false else validS (l.drop (szL l)) := by
  unfold validS
  have hl : 0 < l.length := List.length_pos_iff.2 h
  obtain ⟨n, hn⟩ : ∃ n, l.length = n + 1 := ⟨l.length - 1, by omega⟩
  rw [hn]
  show (if l = [] then true else _) = _
  rw [if_neg h]
  by_cases hz : szL l = 0
  · rw [if_pos hz, if_pos hz]
  · rw [if_neg hz, if_neg hz]
    exact validF_fuel _ _ _ (by rw [List.length_drop]; omega) (Nat.le_refl _)
end Go.VM
/- UTF-8: how many characters, by the library's count. -/
namespace Go.VM
open Go.Lib
section
variable {β : Type} {O : Orc}
theorem planS_lib {f : List AV → Res AV} {args : List AV} {v : AV} (h : f args = .ok v) (st : St) (K : Kv β) : planS O (primP (.lib f) args) st K = K v st q0 := by
  simp only [planS, outS, primP, h, planO, bindO_ok]
theorem libValid_ok {s : List UInt8} (h : s.length ≤ 9223372036854775807) : libValid [.str s] = .ok (.bool (validS s)) := by
  simp only [libValid, Nat.ble_eq_true_of_le h, validS_eq]
end
end Go.VM
/- Small facts that walks of shallow forms want; slices that own their ends, side by side; bytes of a text. -/
namespace Go.VM
open Go
@[simp] theorem oneOf_one (v : AV) : oneOf [v] = v := id rfl
@[simp] theorem notNil_ip (cs : List AV) : notNil (.ip cs) = true := id rfl
@[simp] theorem notNil_mp (i o : Nat) : notNil (.mp i o) = true := id rfl
@[simp] theorem drop1 (a : AV) (l : List AV) : (a :: l).drop 1 = l := id rfl
@[simp] theorem drop2 (a b : AV) (l : List AV) : (a :: b :: l).drop 2 = l := id rfl
@[simp] theorem drop3 (a b c : AV) (l : List AV) : (a :: b :: c :: l).drop 3 = l := id rfl
@[simp] theorem drop4 (a b c d : AV) (l : List AV) : (a :: b :: c :: d :: l).drop 4 = l := id rfl
@[simp] theorem drop5 (a b c d e : AV) (l : List AV) : (a :: b :: c :: d :: e :: l).drop 5 = l := id rfl
@[simp] theorem takeO1 (a : AV) (l : List AV) : takeO 1 true (a :: l) = some (.agg [a]) := id rfl
@[simp] theorem takeO2 (a b : AV) (l : List AV) : takeO 2 true (a :: b :: l) = some (.agg [a, b]) := id rfl
@[simp] theorem takeO3 (a b c : AV) (l : List AV) : takeO 3 true (a :: b :: c :: l) = some (.agg [a, b, c]) := id rfl
@[simp] theorem takeO4 (a b c d : AV) (l : List AV) : takeO 4 true (a :: b :: c :: d :: l) = some (.agg [a, b, c, d]) := id rfl
@[simp] theorem cells_agg (cs : List AV) : AV.cells (.agg cs) = cs := id rfl
@[simp] theorem cells_str (s : List UInt8) : AV.cells (.str s) = [.str s] := id rfl
@[simp] theorem cells_int (k : IntKind) (n : Int) : AV.cells (.int k n) = [.int k n] := id rfl
@[simp] theorem cells_fn (f : Fn) (a b : List AV) : AV.cells (.fn f a b) = [.fn f a b] := id rfl
@[simp] theorem apart_made1 (i : Nat) (o : VM.Obj) : apart q0 ⟨[], .made i o⟩ = true := id rfl
@[simp] theorem apart_made2 (i : Nat) (o : VM.Obj) : apart ⟨[], .kept⟩ ⟨[], .made i o⟩ = true := id rfl
@[simp] theorem apart_wrote1 (i : Nat) (o : VM.Obj) : apart ⟨[], .kept⟩ ⟨[i], .wrote i o⟩ = true := id rfl
theorem wrapN {n : Nat} (h : n ≤ 9223372036854775807) : IntKind.wrap .i64 (n : Int) = (n : Int) := wrap_i64 (by omega) (by omega)
theorem wrapA {n m : Nat} (h : n + m ≤ 9223372036854775807) : IntKind.wrap .i64 ((n : Int) + (m : Int)) = ((n + m : Nat) : Int) := by rw [← Int.natCast_add]; exact wrapN h
theorem wrapA1 {n : Nat} (h : n + 1 ≤ 9223372036854775807) : IntKind.wrap .i64 ((n : Int) + 1) = ((n + 1 : Nat) : Int) := wrapA (m := 1) h
theorem wrapA2 {n : Nat} (h : n + 2 ≤ 9223372036854775807) : IntKind.wrap .i64 ((n : Int) + 2) = ((n + 2 : Nat) : Int) := wrapA (m := 2) h
theorem wrapS {n m : Nat} (h : m ≤ n) (hn : n ≤ 9223372036854775807) : IntKind.wrap .i64 ((n : Int) - (m : Int)) = ((n - m : Nat) : Int) := by rw [← wrapN (n := n - m) (by omega)]; congr 1; omega
theorem ble_of {a b : Nat} (h : a ≤ b) : Nat.ble a b = true := Nat.ble_eq_true_of_le h
/-! Slices that own their ends. -/
theorem own_app {st : St} {z b : Nat} {e : TypeId} {v : AV} {es : List AV} (w : AV) (h : Own st z e v es) (hr : roomOk (es.length + 1) ⟨.other, z, b, [], false, false⟩ = true) :
    ∃ v' st', Own st' z e v' (es ++ [w]) ∧ Keeps st st' (ownerOf v) ∧ ∃ x, ∀ {β : Type} (K : Kv β), appS z b e v [w] st K = K v' st' x := by
  obtain ⟨v', st', x, e1, e2, e3, _⟩ := app_own (b := b) (new := [w]) h (by simp) hr
  exact ⟨v', st', e2, e3, x, fun K => appS_of e1 K⟩
theorem room_of {n z b : Nat} (hn : n ≤ 1000000000) (hb : b ≤ 1000) (hz : 1 ≤ z) : roomOk n ⟨.other, z, b, [], false, false⟩ = true := by
  have : n * b ≤ 1000000000 * 1000 := Nat.mul_le_mul hn hb
  simp only [roomOk, ble_of (show n * b ≤ 70368744177664 by omega), ble_of (show n ≤ 70368744177664 by omega), ble_of hz]; rfl
/-- Such a slice frozen among others. -/
theorem own_freeze {st : St} {z : Nat} {e : TypeId} {v : AV} {es : List AV} (h : Own st z e v es) : ∃ x, IsSl z x es ∧ ∀ n, freeze st 0 (n + 1) v = .ok x := by
  rcases h with ⟨_, hl, ⟨rfl | rfl, rfl⟩ | rfl | ⟨k, rfl, _, _⟩⟩
  · exact ⟨.nils, IsSl.nils, fun _ => rfl⟩
  · exact ⟨.es, IsSl.emp, fun _ => rfl⟩
  · exact ⟨.sl z es .shut, IsSl.shut hl, fun _ => rfl⟩
  · exact ⟨.sl z es .wide, IsSl.wide hl, fun _ => rfl⟩
/-- A pair of such a slice and what freezing leaves. -/
theorem frz_own2 {st : St} {z : Nat} {e : TypeId} {v u : AV} {es : List AV} (h : Own st z e v es) (hu : Fz 1 u) (hb : bare u = true) : ∃ x, IsSl z x es ∧ ∀ {β : Type} (K : AV → Option β), frzS st 0 (.tup [v, u]) K = K (.tup [x, u]) := by
  obtain ⟨x, hx, e1⟩ := own_freeze h
  refine ⟨x, hx, fun K => ?_⟩
  have e2 : freeze st 0 100 (.tup [v, u]) = .ok (.tup [x, u]) := by
    show (do pure (.tup (← allE (freeze st 0 99) [v, u])) : Res AV) = _
    have e3 : allE (freeze st 0 99) [v, u] = .ok [x, u] := by
      simp only [allE, e1 98, hu st 0 99 (by omega), ok_bind, pure_eq]
    rw [e3]; rfl
  have e3 : bare (.tup [x, u]) = true := by
    show (bare x && (bare u && true)) = true
    rw [hx.bare, hb]; rfl
  simp only [frzS, e2, e3, chk_true]
theorem byte_ne {c d : UInt8} (h : c ≠ d) : ¬ ((c.toNat : Nat) : Int) = (d.toNat : Int) := by
  intro k
  have : c.toNat = d.toNat := by omega
  exact h (UInt8.toNat_inj.1 this)
theorem getElem_of {s : List UInt8} {i : Nat} {c : UInt8} (hlt : i < s.length) (hg : s[i]? = some c) : s[i] = c := by
  have := List.getElem?_eq_getElem hlt
  rw [hg] at this; exact (Option.some.inj this).symm
end Go.VM
/- Appends of many elements; tuples of what freezing leaves; arrays that may be written. -/
namespace Go.VM
open Go
theorem own_apps {st : St} {z b : Nat} {e : TypeId} {v : AV} {es : List AV} (new : List AV) (h : Own st z e v es) (hr : new ≠ [] → roomOk (es.length + new.length) ⟨.other, z, b, [], false, false⟩ = true) :
    ∃ v' st', Own st' z e v' (es ++ new) ∧ Keeps st st' (ownerOf v) ∧ ∃ x, ∀ {β : Type} (K : Kv β), appS z b e v new st K = K v' st' x := by
  by_cases hn : new = []
  · subst hn
    refine ⟨v, st, by rw [List.append_nil]; exact h, Keeps.refl _ _, q0, fun K => ?_⟩
    have e : appO z b e v [] st = some (v, st, q0) := by
      rcases h.2.2 with ⟨rfl | rfl, _⟩ | rfl | ⟨k, rfl, _⟩ <;> rfl
    exact appS_of e K
  · obtain ⟨v', st', x, e1, e2, e3, _⟩ := app_own (b := b) (new := new) h hn (hr hn)
    exact ⟨v', st', e2, e3, x, fun K => appS_of e1 K⟩
/-- A slice without room behind it may be appended to. -/
theorem Own.of3 {st : St} (h : st.ro ≤ st.h) {z : Nat} (e : TypeId) {x : AV} {ws : List AV} {m : Nat} (hl : ws.length ≤ 9223372036854775807) (hx : (x = .nils ∨ x = .es) ∧ ws = [] ∨ x = .sl z (ws.take m) .shut) : Own st z e x (ws.take m) := by
  rcases hx with ⟨rfl | rfl, rfl⟩ | rfl
  · rw [List.take_nil]; exact Own.nils h z e
  · rw [List.take_nil]; exact Own.emp h z e
  · exact Own.shut h e (by rw [List.length_take]; omega)
theorem fitTs_of {agg : Bool} {β : Type} : ∀ {l : List AV} (_ : ∀ v ∈ l, ∀ (K : AV → Option β), fitT agg v K = K v) (K : List AV → Option β), fitTs agg l K = K l
  | [], _, _ => rfl
  | v :: l, h, K => by
    show fitT agg v (fun v' => fitTs agg l fun l' => K (v' :: l')) = _
    rw [h v (by simp), fitTs_of fun u hu => h u (List.mem_cons_of_mem _ hu)]
theorem sizesOk_of {z : Nat} {l : List AV} (h : ∀ v ∈ l, v.cells.length = z) : sizesOk z l = true := by
  refine List.all_eq_true.2 fun v hv => ?_
  rw [h v hv]; exact Nat.beq_refl z
/-- A tuple, frozen. -/
theorem frz_tup {st : St} {base : Nat} {vs xs : List AV} (h : allE (freeze st base 99) vs = .ok xs) (hb : bares xs = true) {β : Type} (K : AV → Option β) : frzS st base (.tup vs) K = K (.tup xs) := by
  have e : freeze st base 100 (.tup vs) = .ok (.tup xs) := by
    show (do pure (.tup (← allE (freeze st base 99) vs)) : Res AV) = _
    rw [h]; rfl
  have e3 : bare (.tup xs) = true := hb
  simp only [frzS, e, e3, chk_true]
theorem allE_cons {g : AV → Res AV} {v x : AV} {vs xs : List AV} (h : g v = .ok x) (hs : allE g vs = .ok xs) : allE g (v :: vs) = .ok (x :: xs) := by
  simp only [allE, h, hs, ok_bind, pure_eq]
theorem allE_nil {g : AV → Res AV} : allE g [] = .ok [] := rfl
/-! Arrays that may be written: a slice over all of an object's cells. -/
/-- Elements that are written cell by cell. -/
structure Els (z : Nat) (agg : Bool) (es : List AV) : Prop where
  one : ∀ v ∈ es, ones v.cells = true
  size : ∀ v ∈ es, v.cells.length = z
  fit : ∀ v ∈ es, ∀ c ∈ v.cells, Fz 1 c
  fits : ∀ v ∈ es, VM.fit v = .ok v
  shape : ∀ v ∈ es, agg = true → ∃ cs, v = .agg cs
  notagg : ∀ v ∈ es, agg = false → VM.one v = true
theorem flatEl_len {z : Nat} : ∀ {es : List AV}, (∀ v ∈ es, v.cells.length = z) → (flat es).length = es.length * z
  | [], _ => by simp [flat]
  | v :: l, h => by
    show (v.cells ++ flat l).length = _
    rw [List.length_append, h v (by simp), flatEl_len fun u hu => h u (List.mem_cons_of_mem _ hu), List.length_cons, Nat.add_mul]
    omega
theorem flatEl_at {z : Nat} : ∀ {es : List AV} (_ : ∀ v ∈ es, v.cells.length = z) {k : Nat} {v : AV}, es[k]? = some v → ∃ post, (flat es).drop (k * z) = v.cells ++ post
  | [], _, k, v, h => by simp at h
  | u :: l, hz, 0, v, h => by
    simp only [List.getElem?_cons_zero, Option.some.injEq] at h
    subst h
    exact ⟨flat l, by rw [Nat.zero_mul]; rfl⟩
  | u :: l, hz, k + 1, v, h => by
    obtain ⟨post, e⟩ := flatEl_at (fun w hw => hz w (List.mem_cons_of_mem _ hw)) (show l[k]? = some v by simpa using h)
    refine ⟨post, ?_⟩
    show (u.cells ++ flat l).drop ((k + 1) * z) = _
    have hu := hz u (by simp)
    rw [show (k + 1) * z = u.cells.length + k * z by rw [hu, Nat.add_mul]; omega, ← List.drop_drop, List.drop_left]
    exact e
theorem flatEl_set {z : Nat} : ∀ {es : List AV} (_ : ∀ v ∈ es, v.cells.length = z) {k : Nat} (w : AV) (_ : w.cells.length = z) (_ : k < es.length), splice (flat es) (k * z) w.cells = flat (es.set k w)
  | [], _, k, w, _, h => by simp at h
  | u :: l, hz, 0, w, hw, h => by
    have hu := hz u (by simp)
    show (u.cells ++ flat l).take (0 * z) ++ w.cells ++ (u.cells ++ flat l).drop (0 * z + w.cells.length) = w.cells ++ flat l
    rw [Nat.zero_mul, List.take_zero, List.nil_append, Nat.zero_add, hw, ← hu, List.drop_left]
  | u :: l, hz, k + 1, w, hw, h => by
    have hu := hz u (by simp)
    have ih := flatEl_set (fun x hx => hz x (List.mem_cons_of_mem _ hx)) w hw (show k < l.length by simpa using h)
    have e : (k + 1) * z = u.cells.length + k * z := by rw [hu, Nat.add_mul]; omega
    show (u.cells ++ flat l).take ((k + 1) * z) ++ w.cells ++ (u.cells ++ flat l).drop ((k + 1) * z + w.cells.length) = u.cells ++ flat (l.set k w)
    rw [← ih, e, List.take_append, List.take_of_length_le (by omega), Nat.add_assoc, ← List.drop_drop, List.drop_left]
    show u.cells ++ (flat l).take (u.cells.length + k * z - u.cells.length) ++ w.cells ++ _ = u.cells ++ ((flat l).take (k * z) ++ w.cells ++ (flat l).drop (k * z + w.cells.length))
    rw [Nat.add_sub_cancel_left]
    simp only [List.append_assoc]
theorem idx_ms {β : Type} {z id n c k : Nat} (hk : k < n) (st : St) (K : AV → List Nat → Option β) : idxA z (.ms id 0 z n c) (k : Int) st K = K (.mp id (k * z)) [] := by
  have hz : z.beq z = true := Nat.beq_refl z
  have hi : insideO (k : Int) n = some k := by
    show (match k.blt n with | true => some k | false => none) = _
    rw [blt_true.2 hk]
  simp only [idxA, idxO, hz, hi, bindO_ok, Nat.zero_add]
theorem load_el {z : Nat} {es : List AV} (he : Els z true es) {st : St} {id : Nat} {t : TypeId} (hg : st.get id = .ok (.cells t (flat es))) {k : Nat} {v : AV} (hk : es[k]? = some v) {β : Type} (K : AV → List Nat → Option β) :
    loadS z true (.mp id (k * z)) st K = K v [id] := by
  have hv := List.mem_of_getElem? hk
  obtain ⟨post, e⟩ := flatEl_at he.size hk
  obtain ⟨cs, rfl⟩ := he.shape v hv rfl
  have hl : cs.length = z := he.size _ hv
  rw [loadS_mp hg, e]
  show bindO (takeO z true (cs ++ post)) _ = _
  rw [takeO_agg (by rw [List.length_append]; omega), ← hl, List.take_left, bindO_ok]
theorem store_el {O : Orc} {z : Nat} {agg : Bool} {es : List AV} (he : Els z agg es) {st : St} {id : Nat} {t : TypeId} (hg : st.get id = .ok (.cells t (flat es))) (hro : st.ro ≤ id) {k : Nat} (hk : k < es.length) {w : AV} (hw : w.cells.length = z) :
    ∃ fx, fx = Fx.mk [id] (.wrote id (.cells t (flat (es.set k w)))) ∧ ∀ {β : Type} (K : Kv β), storeS O z (.mp id (k * z)) w w.cells st K = K undef (st.put id (.cells t (flat (es.set k w)))) fx := by
  refine ⟨_, rfl, fun K => ?_⟩
  have hle : k * z + w.cells.length ≤ (flat es).length := by
    rw [flatEl_len he.size, hw]
    have : (k + 1) * z ≤ es.length * z := Nat.mul_le_mul_right z hk
    rw [Nat.add_mul] at this
    omega
  rw [storeS_at hg hw hle hro, flatEl_set he.size w hw hk]
theorem Els.set {z : Nat} {agg : Bool} {es : List AV} (he : Els z agg es) {k : Nat} {w : AV} (hw : Els z agg [w]) : Els z agg (es.set k w) := by
  have key : ∀ v ∈ es.set k w, v ∈ es ∨ v = w := fun v hv => List.mem_or_eq_of_mem_set hv
  have hm : w ∈ [w] := by simp
  exact ⟨fun v hv => (key v hv).elim (he.one v) (fun e => e ▸ hw.one w hm), fun v hv => (key v hv).elim (he.size v) (fun e => e ▸ hw.size w hm),
    fun v hv => (key v hv).elim (he.fit v) (fun e => e ▸ hw.fit w hm), fun v hv => (key v hv).elim (he.fits v) (fun e => e ▸ hw.fits w hm),
    fun v hv => (key v hv).elim (he.shape v) (fun e => e ▸ hw.shape w hm), fun v hv => (key v hv).elim (he.notagg v) (fun e => e ▸ hw.notagg w hm)⟩
theorem onesEl_app : ∀ {l m : List AV}, ones (l ++ m) = (ones l && ones m)
  | [], m => by simp [ones]
  | v :: l, m => by simp only [List.cons_append, ones, onesEl_app (l := l), Bool.and_assoc]
theorem onesEl_flat : ∀ {es : List AV}, (∀ v ∈ es, ones v.cells = true) → ones (flat es) = true
  | [], _ => rfl
  | v :: l, h => by
    show ones (v.cells ++ flat l) = true
    rw [onesEl_app, h v (by simp), onesEl_flat fun u hu => h u (List.mem_cons_of_mem _ hu)]; rfl
theorem memEl_flat : ∀ {es : List AV} {c : AV}, c ∈ flat es → ∃ v ∈ es, c ∈ v.cells
  | [], _, h => by simp [flat] at h
  | v :: l, c, h => by
    have h : c ∈ v.cells ++ flat l := h
    rcases List.mem_append.1 h with h | h
    · exact ⟨v, by simp, h⟩
    · obtain ⟨u, hu, hc⟩ := memEl_flat h
      exact ⟨u, List.mem_cons_of_mem _ hu, hc⟩
theorem groupEl_of {z : Nat} {agg : Bool} : ∀ {es : List AV}, Els z agg es → group z agg es.length (flat es) = .ok es
  | [], _ => rfl
  | v :: l, h => by
    have ih := groupEl_of (es := l) ⟨fun u hu => h.one u (List.mem_cons_of_mem _ hu), fun u hu => h.size u (List.mem_cons_of_mem _ hu), fun u hu => h.fit u (List.mem_cons_of_mem _ hu), fun u hu => h.fits u (List.mem_cons_of_mem _ hu), fun u hu => h.shape u (List.mem_cons_of_mem _ hu), fun u hu => h.notagg u (List.mem_cons_of_mem _ hu)⟩
    have hv : v ∈ v :: l := by simp
    have hs := h.size v hv
    have e1 : takeCells z agg (v.cells ++ flat l) = .ok v := by
      cases agg with
      | true =>
        obtain ⟨cs, rfl⟩ := h.shape v hv rfl
        have hs : cs.length = z := hs
        show (match z.ble (cs ++ flat l).length with | true => Except.ok (AV.agg ((cs ++ flat l).take z)) | false => _) = _
        rw [Nat.ble_eq_true_of_le (by rw [List.length_append]; omega), ← hs, List.take_left]
      | false =>
        have h1 := one_cells (h.notagg v hv rfl)
        rw [h1]; rfl
    have e2 : (v.cells ++ flat l).drop z = flat l := by rw [← hs, List.drop_left]
    show (do let u ← takeCells z agg (v.cells ++ flat l); let r ← group z agg l.length ((v.cells ++ flat l).drop z); pure (u :: r) : Res (List AV)) = _
    rw [e1, e2, ih]; rfl
theorem fitsEl_of : ∀ {es : List AV}, (∀ v ∈ es, VM.fit v = .ok v) → VM.fits es = .ok es
  | [], _ => rfl
  | v :: l, h => by
    simp only [VM.fits, h v (by simp), fitsEl_of fun u hu => h u (List.mem_cons_of_mem _ hu), ok_bind, pure_eq]
/-- Such a slice, frozen. -/
theorem freeze_ms {z : Nat} {es : List AV} (he : Els z (Nat.ble 2 z) es) {st : St} {id : Nat} {t : TypeId} (hg : st.get id = .ok (.cells t (flat es))) (hne : es ≠ []) (n : Nat) :
    freeze st 0 (n + 2) (.ms id 0 z es.length 0) = .ok (.sl z es .wide) := by
  have h0 : id.blt 0 = false := blt_false.2 (Nat.zero_le _)
  have hd : ((flat es).drop 0).take (es.length * z) = flat es := by rw [List.drop_zero, ← flatEl_len he.size, List.take_length]
  have e1 : allE (freeze st 0 (n + 1)) (flat es) = .ok (flat es) := allE_fz (d := 1) (by omega) fun c hc => by
    obtain ⟨v, hv, hc⟩ := memEl_flat hc
    exact he.fit v hv c hc
  have e2 := onesEl_flat he.one
  have e3 := groupEl_of he
  have e4 := fitsEl_of he.fits
  have h5 : es.length.beq 0 = false := by
    cases es with
    | nil => exact absurd rfl hne
    | cons v l => rfl
  show (match id.blt 0 with
    | true => Except.ok (AV.ms id 0 z es.length 0)
    | false => do
      match ← st.get id with
      | .cells _ cs => do
        let cs ← allE (freeze st 0 (n + 1)) ((cs.drop 0).take (es.length * z))
        match ones cs with
        | true => do
          let es' ← VM.fits (← group z (Nat.ble 2 z) es.length cs)
          match es.length.beq 0 with
          | true => .error "freeze: no array"
          | false => pure (.sl z es' .wide)
        | false => .error "freeze: cells"
      | _ => .error "freeze: what?") = _
  rw [h0, hg]
  simp only [ok_bind, hd, e1, e2, e3, e4, h5, pure_eq]
theorem planS_new {β : Type} {O : Orc} (o : Obj) (f : Nat → AV) (st : St) (K : Kv β) : planS O (.ok (.new o f)) st K = K (f st.h) (st.add o) ⟨[], .made st.h o⟩ := id rfl
theorem msApp_of {agg : Bool} {i : TI} {e : TypeId} {es : List AV} (he : Els i.size agg es) (hne : es ≠ []) (hr : roomOk es.length i = true) {z : Nat} :
    msAppendP i e (.sl z [] .shut) es = .ok (.new (.cells (1000000 + e) (flat es)) fun k => .ms k 0 i.size es.length 0) := by
  cases es with
  | nil => exact absurd rfl hne
  | cons v l =>
    have h1 := fitsEl_of he.fits
    have h2 : ((v :: l).all fun v => v.cells.length.beq i.size) = true := sizesOk_of he.size
    show (do let new ← VM.fits (v :: l); _) = _
    rw [h1, ok_bind, h2, hr]
    rfl
theorem nilS_sl {β : Type} {z : Nat} {x : AV} {es : List AV} (h : IsSl z x es) {t : TypeId} (hne : es ≠ []) (K : Bool → Option β) : nilS (.slice t) x .nils K = K false := by
  rcases h.2 with ⟨rfl | rfl, rfl⟩ | rfl | rfl
  · exact absurd rfl hne
  · exact absurd rfl hne
  · rfl
  · rfl
theorem lenS_es {β : Type} (K : Nat → Option β) : lenS .es K = K 0 := id rfl
/-- A variable that is there, written whole. -/
theorem var_put {O : Orc} {st : St} {id : Nat} {t : TypeId} {z : Nat} {old cs : List AV} (v : AV) (hg : st.get id = .ok (.cells t old)) (hl : old.length = z) (hc : cs.length = z) (hro : st.ro ≤ id) :
    ∃ st', st'.get id = .ok (.cells t cs) ∧ Keeps st st' (· = id) ∧ st'.h = st.h ∧ ∃ fx, ∀ {β : Type} (K : Kv β), storeS O z (.mp id 0) v cs st K = K undef st' fx := by
  refine ⟨st.put id (.cells t cs), St.get_put_same (St.get_ok.1 hg).1, Keeps.put rfl, rfl, ⟨[id], .wrote id (.cells t (splice old 0 cs))⟩, fun K => ?_⟩
  rw [storeS_at hg hc (by omega) hro, splice_all (by omega)]
/-! What reads the same before and after a call. -/
def Rf (d : Nat) (v : AV) : Prop := ∀ f, d ≤ f → sameAV f v v = true
theorem Rf.mono {d e : Nat} {v : AV} (h : Rf d v) (hd : d ≤ e) : Rf e v := fun f hf => h f (Nat.le_trans hd hf)
/-- What is new in between may be written. -/
theorem Keeps.fresh {a b c : St} {p : Nat → Prop} {i : Nat} (h : Keeps a b p) (k : Keeps b c (· = i)) (hi : a.h ≤ i) : Keeps a c p :=
  ⟨k.ro.trans h.ro, Nat.le_trans h.h k.h, fun j o hj hg => k.old j o (fun e => by
    have := (St.get_ok.1 hg).1
    omega) (h.old j o hj hg)⟩
end Go.VM
/- Tokens of a text, as plain functions. -/
namespace Go.Lex
open Go.VM
def wh (p : UInt8 → Bool) (s : List UInt8) : Nat := (s.takeWhile p).length
def isBlank (b : UInt8) : Bool := b == 32 || b == 9 || b == 10 || b == 13
def isLow (b : UInt8) : Bool := (decide (97 ≤ b.toNat) && decide (b.toNat ≤ 122)) || b == 95
def isDig (b : UInt8) : Bool := decide (48 ≤ b.toNat) && decide (b.toNat ≤ 57)
def isBeh (b : UInt8) : Bool := isLow b || isDig b || (decide (65 ≤ b.toNat) && decide (b.toNat ≤ 90)) || b == 39
/-- Where a remark ends, so many being open. -/
def rem : List UInt8 → Nat → Option Nat
  | [], _ => none
  | [_], _ => none
  | a :: b :: l, d =>
    if a = 40 ∧ b = 42 then (rem l (d + 1)).map (· + 2)
    else if a = 42 ∧ b = 41 then (if d = 1 then some 2 else (rem l (d - 1)).map (· + 2))
    else (rem (b :: l) d).map (· + 1)
def words : List (List UInt8) := [[108, 101, 116], [114, 101, 99], [105, 110], [102, 117, 110], [105, 102], [116, 104, 101, 110], [101, 108, 115, 101], [109, 97, 116, 99, 104], [119, 105, 116, 104], [116, 114, 117, 101], [102, 97, 108, 115, 101], [109, 111, 100]]
def nameK (w : List UInt8) : Nat := if w = [95] then 8 else if words.contains w then 3 else 4
def stepV (a : Nat) (c : UInt8) : Nat := a * 10 + (c.toNat - 48)
def numV (acc : Nat) (l : List UInt8) : Nat := l.foldl stepV acc
theorem numV_nil (a : Nat) : numV a [] = a := id rfl
theorem numV_cons (a : Nat) (c : UInt8) (l : List UInt8) : numV a (c :: l) = numV (stepV a c) l := id rfl
def isSgn (c : UInt8) : Bool := c == 43 || c == 45
def sgn : List UInt8 → Nat
  | c :: _ => if isSgn c then 1 else 0
  | [] => 0
/-- An exponent behind a Float's digits: how many bytes, and its value. -/
def expo (s : List UInt8) : Nat × Int :=
  match s with
  | [] => (0, 0)
  | e :: l =>
    if e = 101 ∨ e = 69 then
      let d := wh isDig (l.drop (sgn l))
      if d = 0 then (0, 0)
      else
        let x : Int := ((min (numV 0 ((l.drop (sgn l)).take d)) 1000000 : Nat) : Int)
        (1 + sgn l + d, if l.head? = some 45 then -x else x)
    else (0, 0)
/-- A number: its kind and how many bytes. -/
def number (s : List UInt8) : Nat × Nat :=
  let n := wh isDig s
  if (s.drop n).head? = some 46 then
    let k := wh isDig (s.drop (n + 1))
    let x := expo (s.drop (n + 1 + k))
    (if n + k > 15 ∨ x.2 - (k : Int) < -22 ∨ x.2 - (k : Int) > 22 then 9 else 6, n + 1 + k + x.1)
  else (5, n)
/-- What is left of a Bad text: up to its quote, or its line's end. -/
def badT : List UInt8 → Nat
  | [] => 0
  | c :: l => if c = 10 then 0 else if c = 34 then 1 else badT l + 1
def isEsc (c : UInt8) : Bool := c == 110 || c == 116 || c == 92 || c == 34
/-- A text behind its quote: its kind and how many bytes. -/
def txt : List UInt8 → Nat × Nat
  | [] => (9, 0)
  | [c] => if c = 10 then (9, 0) else if c = 34 then (7, 1) else (9, 1)
  | c :: d :: l =>
    if c = 10 then (9, 0) else if c = 34 then (7, 1)
    else if c = 92 then (if isEsc d then ((txt l).1, (txt l).2 + 2) else (9, badT (d :: l) + 1))
    else ((txt (d :: l)).1, (txt (d :: l)).2 + 1)
def twos : List (List UInt8) := [[45, 62], [58, 58], [60, 62], [60, 61], [62, 61], [43, 46], [45, 46], [42, 46], [47, 46], [38, 38], [124, 124]]
def ones1 : List UInt8 := [40, 41, 91, 93, 44, 59, 124, 61, 60, 62, 43, 45, 42, 47, 94, 64]
def isOne (c : UInt8) : Bool := ones1.contains c
/-- The token that a text begins with: its kind, and how many bytes. -/
def cut (s : List UInt8) : Nat × Nat :=
  match s with
  | [] => (9, 0)
  | c :: l =>
    if isBlank c then (1, wh isBlank s)
    else if s.take 2 = [40, 42] then (match rem (s.drop 2) 1 with | some n => (2, n + 2) | none => (9, s.length))
    else if isLow c then (nameK (s.takeWhile isBeh), wh isBeh s)
    else if isDig c then number s
    else if c = 34 then ((txt l).1, (txt l).2 + 1)
    else if twos.contains (s.take 2) then (8, 2)
    else if isOne c then (8, 1)
    else (9, if szL s = 0 then 1 else szL s)
/-- A text's tokens. -/
def toks : Nat → List UInt8 → List (Nat × List UInt8)
  | 0, _ => []
  | n + 1, s => match s with
    | [] => []
    | _ :: _ => ((cut s).1, s.take (cut s).2) :: toks n (s.drop (cut s).2)
def tokens (s : List UInt8) : List (Nat × List UInt8) := toks s.length s
theorem wh_le (p : UInt8 → Bool) (s : List UInt8) : wh p s ≤ s.length := (List.takeWhile_sublist p).length_le
theorem wh_take (p : UInt8 → Bool) (s : List UInt8) : s.take (wh p s) = s.takeWhile p := by
  unfold wh
  induction s with
  | nil => rfl
  | cons c l ih =>
    rw [List.takeWhile_cons]
    split
    · simp [ih]
    · simp
theorem wh_drop (p : UInt8 → Bool) (s : List UInt8) : s.drop (wh p s) = s.dropWhile p := by
  unfold wh
  induction s with
  | nil => rfl
  | cons c l ih =>
    rw [List.takeWhile_cons, List.dropWhile_cons]
    split
    · simp [ih]
    · simp
theorem wh_len (p : UInt8 → Bool) (s : List UInt8) : s.length = wh p s + (s.dropWhile p).length := by
  rw [← wh_drop, List.length_drop]
  have := wh_le p s
  omega
theorem wh_cons (p : UInt8 → Bool) (c : UInt8) (l : List UInt8) : wh p (c :: l) = if p c = true then wh p l + 1 else 0 := by
  unfold wh
  rw [List.takeWhile_cons]
  split <;> simp
theorem rem_le : ∀ (s : List UInt8) (d n : Nat), rem s d = some n → 2 ≤ n ∧ n ≤ s.length
  | [], _, _, h => by simp [rem] at h
  | [_], _, _, h => by simp [rem] at h
  | a :: b :: l, d, n, h => by
    simp only [rem] at h
    split at h
    · obtain ⟨m, hm, rfl⟩ := Option.map_eq_some_iff.1 h
      have := rem_le l (d + 1) m hm
      simp; omega
    · split at h
      · split at h
        · cases h; simp
        · obtain ⟨m, hm, rfl⟩ := Option.map_eq_some_iff.1 h
          have := rem_le l (d - 1) m hm
          simp; omega
      · obtain ⟨m, hm, rfl⟩ := Option.map_eq_some_iff.1 h
        have := rem_le (b :: l) d m hm
        simp at this ⊢; omega
theorem badT_le : ∀ (s : List UInt8), badT s ≤ s.length
  | [] => Nat.le_refl _
  | c :: l => by
    have := badT_le l
    simp only [badT]
    split
    · omega
    · split
      · simp
      · simp; exact this
theorem txt_le : ∀ (s : List UInt8), (txt s).2 ≤ s.length
  | [] => Nat.le_refl _
  | [c] => by
    simp only [txt]
    split
    · simp
    · split <;> simp
  | c :: d :: l => by
    have h1 := txt_le l
    have h2 := txt_le (d :: l)
    have h3 := badT_le (d :: l)
    simp only [txt, List.length_cons] at *
    split
    · simp
    · split
      · simp
      · split
        · split
          · simp; omega
          · simp; omega
        · simp; omega
theorem sgn_le (l : List UInt8) : sgn l ≤ l.length := by
  cases l with
  | nil => exact Nat.le_refl _
  | cons c l => simp only [sgn]; split <;> simp
theorem expo_le (s : List UInt8) : (expo s).1 ≤ s.length := by
  unfold expo
  cases s with
  | nil => simp
  | cons e l =>
    dsimp only
    split
    · have hg := sgn_le l
      have hd := wh_le isDig (l.drop (sgn l))
      rw [List.length_drop] at hd
      split
      · simp
      · simp only [List.length_cons]; omega
    · simp
theorem number_le (s : List UInt8) (h : 1 ≤ wh isDig s) : 1 ≤ (number s).2 ∧ (number s).2 ≤ s.length := by
  unfold number
  have h1 := wh_le isDig s
  dsimp only
  split
  · rename_i hd
    have hlt : wh isDig s < s.length := by
      rcases Nat.lt_or_ge (wh isDig s) s.length with q | q
      · exact q
      · rw [List.drop_of_length_le q] at hd; cases hd
    have h2 := wh_le isDig (s.drop (wh isDig s + 1))
    rw [List.length_drop] at h2
    have h3 := expo_le (s.drop (wh isDig s + 1 + wh isDig (s.drop (wh isDig s + 1))))
    rw [List.length_drop] at h3
    dsimp only
    omega
  · exact ⟨h, h1⟩
theorem cut_le {s : List UInt8} (h : s ≠ []) : 1 ≤ (cut s).2 ∧ (cut s).2 ≤ s.length := by
  cases s with
  | nil => exact absurd rfl h
  | cons c l =>
    unfold cut
    dsimp only
    split
    · rename_i hb
      exact ⟨by rw [wh_cons, if_pos hb]; omega, wh_le _ _⟩
    split
    · rename_i h2
      have hl : 2 ≤ (c :: l).length := by
        have := congrArg List.length h2
        rw [List.length_take] at this
        simp at this
        simp; omega
      cases hr : rem (List.drop 2 (c :: l)) 1 with
      | some n =>
        have := rem_le _ _ _ hr
        rw [List.length_drop] at this
        dsimp only; omega
      | none => dsimp only; omega
    split
    · rename_i hb
      have hb' : isBeh c = true := by unfold isBeh; rw [hb]; rfl
      exact ⟨by rw [wh_cons, if_pos hb']; omega, wh_le _ _⟩
    split
    · rename_i hb
      exact number_le _ (by rw [wh_cons, if_pos hb]; omega)
    split
    · have := txt_le l
      simp; omega
    split
    · rename_i h2
      have hl : 2 ≤ (c :: l).length := by
        rcases Nat.lt_or_ge (c :: l).length 2 with q | q
        · exfalso
          have : l = [] := by
            cases l with
            | nil => rfl
            | cons d l => simp at q; omega
          subst this
          simp [twos] at h2
        · exact q
      dsimp only; omega
    split
    · simp
    · have := szL_le (l := c :: l) (by simp)
      dsimp only
      split
      · simp
      · omega
theorem toks_fuel : ∀ (n m : Nat) (s : List UInt8), s.length ≤ n → s.length ≤ m → toks n s = toks m s
  | 0, 0, _, _, _ => rfl
  | 0, m + 1, s, h, _ => by
    have : s = [] := List.eq_nil_of_length_eq_zero (by omega)
    subst this; rfl
  | n + 1, 0, s, _, h => by
    have : s = [] := List.eq_nil_of_length_eq_zero (by omega)
    subst this; rfl
  | n + 1, m + 1, [], _, _ => rfl
  | n + 1, m + 1, c :: l, hn, hm => by
    have hc := cut_le (s := c :: l) (by simp)
    simp only [toks]
    rw [toks_fuel n m ((c :: l).drop (cut (c :: l)).2) (by rw [List.length_drop]; omega) (by rw [List.length_drop]; omega)]
theorem tokens_cons {s : List UInt8} (h : s ≠ []) : tokens s = ((cut s).1, s.take (cut s).2) :: tokens (s.drop (cut s).2) := by
  cases s with
  | nil => exact absurd rfl h
  | cons c l =>
    have hc := cut_le (s := c :: l) (by simp)
    show toks (l.length + 1) (c :: l) = _
    simp only [toks]
    congr 1
    exact toks_fuel _ _ _ (by rw [List.length_drop]; simp at hc ⊢; omega) (Nat.le_refl _)
theorem tokens_nil : tokens [] = [] := rfl
end Go.Lex
/- Tokens: a token by itself, and a token before a line's end. -/
namespace Go.Lex
open Go.VM
theorem szN_same {n n' b0 b1 b2 b3 c1 c2 c3 : Nat} (h0 : szN n b0 b1 b2 b3 ≠ 0) (e1 : 1 < szN n b0 b1 b2 b3 → c1 = b1) (e2 : 2 < szN n b0 b1 b2 b3 → c2 = b2) (e3 : 3 < szN n b0 b1 b2 b3 → c3 = b3) (hl : szN n b0 b1 b2 b3 ≤ n') :
    szN n' b0 c1 c2 c3 = szN n b0 b1 b2 b3 := by
  by_cases a1 : b0 < 128
  · unfold szN; rw [if_pos a1, if_pos a1]
  by_cases a2 : 194 ≤ b0 ∧ b0 ≤ 223
  · by_cases q : n < 2 ∨ b1 < 128 ∨ 191 < b1
    · exact absurd (by unfold szN; rw [if_neg a1, if_pos a2, if_pos q]) h0
    · have e : szN n b0 b1 b2 b3 = 2 := by unfold szN; rw [if_neg a1, if_pos a2, if_neg q]
      rw [e] at e1 hl ⊢
      have := e1 (by omega)
      subst this
      unfold szN; rw [if_neg a1, if_pos a2, if_neg (by omega)]
  by_cases a3 : 224 ≤ b0 ∧ b0 ≤ 239
  · by_cases q : n < 3 ∨ b1 < 128 ∨ 191 < b1 ∨ b2 < 128 ∨ 191 < b2 ∨ (b0 = 224 ∧ b1 < 160) ∨ (b0 = 237 ∧ 159 < b1)
    · exact absurd (by unfold szN; rw [if_neg a1, if_neg a2, if_pos a3, if_pos q]) h0
    · have e : szN n b0 b1 b2 b3 = 3 := by unfold szN; rw [if_neg a1, if_neg a2, if_pos a3, if_neg q]
      rw [e] at e1 e2 hl ⊢
      have := e1 (by omega)
      have := e2 (by omega)
      subst_vars
      unfold szN; rw [if_neg a1, if_neg a2, if_pos a3, if_neg (by omega)]
  by_cases a4 : 240 ≤ b0 ∧ b0 ≤ 244
  · by_cases q : n < 4 ∨ b1 < 128 ∨ 191 < b1 ∨ b2 < 128 ∨ 191 < b2 ∨ b3 < 128 ∨ 191 < b3 ∨ (b0 = 240 ∧ b1 < 144) ∨ (b0 = 244 ∧ 143 < b1)
    · exact absurd (by unfold szN; rw [if_neg a1, if_neg a2, if_neg a3, if_pos a4, if_pos q]) h0
    · have e : szN n b0 b1 b2 b3 = 4 := by unfold szN; rw [if_neg a1, if_neg a2, if_neg a3, if_pos a4, if_neg q]
      rw [e] at e1 e2 e3 hl ⊢
      have := e1 (by omega)
      have := e2 (by omega)
      have := e3 (by omega)
      subst_vars
      unfold szN; rw [if_neg a1, if_neg a2, if_neg a3, if_pos a4, if_neg (by omega)]
  · exact absurd (by unfold szN; rw [if_neg a1, if_neg a2, if_neg a3, if_neg a4]) h0
theorem szN_high {n b0 b1 b2 b3 : Nat} (h : 2 ≤ szN n b0 b1 b2 b3) : 128 ≤ b0 ∧ (128 ≤ b1) ∧ (2 < szN n b0 b1 b2 b3 → 128 ≤ b2) ∧ (3 < szN n b0 b1 b2 b3 → 128 ≤ b3) := by
  unfold szN at *
  by_cases a1 : b0 < 128
  · rw [if_pos a1] at h; omega
  rw [if_neg a1] at *
  by_cases a2 : 194 ≤ b0 ∧ b0 ≤ 223
  · rw [if_pos a2] at *
    by_cases q : n < 2 ∨ b1 < 128 ∨ 191 < b1
    · rw [if_pos q] at h; omega
    · rw [if_neg q] at *; omega
  rw [if_neg a2] at *
  by_cases a3 : 224 ≤ b0 ∧ b0 ≤ 239
  · rw [if_pos a3] at *
    by_cases q : n < 3 ∨ b1 < 128 ∨ 191 < b1 ∨ b2 < 128 ∨ 191 < b2 ∨ (b0 = 224 ∧ b1 < 160) ∨ (b0 = 237 ∧ 159 < b1)
    · rw [if_pos q] at h; omega
    · rw [if_neg q] at *; omega
  rw [if_neg a3] at *
  by_cases a4 : 240 ≤ b0 ∧ b0 ≤ 244
  · rw [if_pos a4] at *
    by_cases q : n < 4 ∨ b1 < 128 ∨ 191 < b1 ∨ b2 < 128 ∨ 191 < b2 ∨ b3 < 128 ∨ 191 < b3 ∨ (b0 = 240 ∧ b1 < 144) ∨ (b0 = 244 ∧ 143 < b1)
    · rw [if_pos q] at h; omega
    · rw [if_neg q] at *; omega
  · rw [if_neg a4] at h; omega
theorem szN_four (n b0 b1 b2 b3 : Nat) : szN n b0 b1 b2 b3 ≤ 4 := by
  unfold szN
  repeat' split
  all_goals omega
theorem szL_same {s t : List UInt8} (h : szL s ≠ 0) (he : ∀ j, j < szL s → t.getD j 0 = s.getD j 0) (hl : szL s ≤ t.length) : szL t = szL s := by
  have h0 := he 0 (by omega)
  unfold szL at h he hl ⊢
  rw [h0]
  exact szN_same h (fun k => by rw [he 1 k]) (fun k => by rw [he 2 k]) (fun k => by rw [he 3 k]) hl
theorem getD_take {s : List UInt8} {n j : Nat} (h : j < n) : (s.take n).getD j 0 = s.getD j 0 := by
  rw [List.getD_eq_getElem?_getD, List.getD_eq_getElem?_getD, List.getElem?_take, if_pos h]
theorem getD_drop (s : List UInt8) (n j : Nat) : (s.drop n).getD j 0 = s.getD (n + j) 0 := by
  rw [List.getD_eq_getElem?_getD, List.getD_eq_getElem?_getD, List.getElem?_drop]
theorem getD_app {s x : List UInt8} {j : Nat} (h : j < s.length) : (s ++ x).getD j 0 = s.getD j 0 := by
  rw [List.getD_eq_getElem?_getD, List.getD_eq_getElem?_getD, List.getElem?_append_left h]
theorem szL_take {s : List UInt8} (hne : s ≠ []) (h : szL s ≠ 0) {n : Nat} (hn : szL s ≤ n) : szL (s.take n) = szL s :=
  szL_same h (fun j hj => getD_take (by omega)) (by rw [List.length_take]; have := szL_le hne; omega)
theorem szL_app {s : List UInt8} (hne : s ≠ []) (h : szL s ≠ 0) (x : List UInt8) : szL (s ++ x) = szL s := by
  have := szL_le hne
  exact szL_same h (fun j hj => getD_app (by omega)) (by rw [List.length_append]; omega)
theorem szL_high {s : List UInt8} (h : 2 ≤ szL s) {j : Nat} (hj : j < szL s) : 128 ≤ (s.getD j 0).toNat := by
  have h4 := szN_four s.length (s.getD 0 0).toNat (s.getD 1 0).toNat (s.getD 2 0).toNat (s.getD 3 0).toNat
  unfold szL at h hj
  have := szN_high h
  have hj4 : j < 4 := by omega
  match j, hj4 with
  | 0, _ => exact this.1
  | 1, _ => exact this.2.1
  | 2, _ => exact this.2.2.1 hj
  | 3, _ => exact this.2.2.2 hj
theorem valid_sz {s : List UInt8} (hne : s ≠ []) (h : validS s = true) : szL s ≠ 0 ∧ validS (s.drop (szL s)) = true := by
  rw [validS_step hne] at h
  by_cases z : szL s = 0
  · rw [if_pos z] at h; cases h
  · rw [if_neg z] at h; exact ⟨z, h⟩
theorem valid_app : ∀ (n : Nat) (a b : List UInt8), a.length ≤ n → validS a = true → validS (a ++ b) = validS b
  | n, [], b, _, _ => rfl
  | 0, _ :: _, _, h, _ => by simp at h
  | n + 1, c :: a, b, h, hv => by
    obtain ⟨z, hz⟩ := valid_sz (s := c :: a) (by simp) hv
    have hle := szL_le (l := c :: a) (by simp)
    have hz2 := szL_app (s := c :: a) (by simp) z b
    rw [validS_step (l := c :: a ++ b) (by simp), hz2, if_neg z, List.drop_append_of_le_length hle]
    exact valid_app n _ b (by rw [List.length_drop]; simp at h ⊢; omega) hz
/-- A place between two characters. -/
def Bd (s : List UInt8) (n : Nat) : Prop := n = 0 ∨ (s.getD n 0).toNat < 128 ∨ (s.getD (n - 1) 0).toNat < 128
theorem valid_split : ∀ (m : Nat) (s : List UInt8) (n : Nat), s.length ≤ m → validS s = true → n ≤ s.length → Bd s n → validS (s.take n) = true ∧ validS (s.drop n) = true
  | m, s, 0, _, hv, _, _ => ⟨rfl, hv⟩
  | m, [], n + 1, _, _, h, _ => by simp at h
  | 0, _ :: _, _, h, _, _, _ => by simp at h
  | m + 1, c :: l, n + 1, hm, hv, hn, hb => by
    obtain ⟨z, hz⟩ := valid_sz (s := c :: l) (by simp) hv
    have hle := szL_le (l := c :: l) (by simp)
    by_cases hzn : szL (c :: l) ≤ n + 1
    · have hlen : ((c :: l).drop (szL (c :: l))).length = (c :: l).length - szL (c :: l) := List.length_drop
      have hb2 : Bd ((c :: l).drop (szL (c :: l))) (n + 1 - szL (c :: l)) := by
        rcases hb with hb | hb | hb
        · omega
        · exact .inr (.inl (by rw [getD_drop, show szL (c :: l) + (n + 1 - szL (c :: l)) = n + 1 by omega]; exact hb))
        · by_cases e : n + 1 - szL (c :: l) = 0
          · exact .inl e
          · exact .inr (.inr (by rw [getD_drop, show szL (c :: l) + (n + 1 - szL (c :: l) - 1) = n + 1 - 1 by omega]; exact hb))
      have ih := valid_split m ((c :: l).drop (szL (c :: l))) (n + 1 - szL (c :: l)) (by simp at hm hlen ⊢; omega) hz (by omega) hb2
      have h1 := szL_take (s := c :: l) (by simp) z hzn
      have hne : (c :: l).take (n + 1) ≠ [] := by simp
      constructor
      · rw [validS_step hne, h1, if_neg z, List.drop_take]
        exact ih.1
      · have e : (c :: l).drop (n + 1) = ((c :: l).drop (szL (c :: l))).drop (n + 1 - szL (c :: l)) := by
          rw [List.drop_drop]; congr 1; omega
        rw [e]; exact ih.2
    · exfalso
      have k1 := szL_high (s := c :: l) (by omega) (j := n + 1) (by omega)
      have k2 := szL_high (s := c :: l) (by omega) (j := n + 1 - 1) (by omega)
      rcases hb with hb | hb | hb <;> omega
/-- All of a text's first bytes are ASCII. -/
def Asc (s : List UInt8) (n : Nat) : Prop := ∀ j, j < n → (s.getD j 0).toNat < 128
theorem asc_bd {s : List UInt8} {n : Nat} (h : Asc s n) : Bd s n := by
  cases n with
  | zero => exact .inl rfl
  | succ n => exact .inr (.inr (h n (Nat.lt_succ_self n)))
theorem asc_add {s : List UInt8} {a b : Nat} (h : Asc s a) (k : Asc (s.drop a) b) : Asc s (a + b) := by
  intro j hj
  by_cases q : j < a
  · exact h j q
  · have := k (j - a) (by omega)
    rw [getD_drop, show a + (j - a) = j by omega] at this
    exact this
theorem asc_wh {p : UInt8 → Bool} (hp : ∀ b, p b = true → b.toNat < 128) : ∀ s : List UInt8, Asc s (wh p s)
  | [] => fun j hj => absurd hj (Nat.not_lt_zero j)
  | c :: l => by
    rw [wh_cons]
    intro j hj
    cases hc : p c with
    | false => rw [hc] at hj; simp at hj
    | true =>
      rw [hc, if_pos rfl] at hj
      cases j with
      | zero => exact hp c hc
      | succ j => exact asc_wh hp l j (by omega)
theorem all_b {p : UInt8 → Bool} (h : ((List.range 256).all fun n => p (UInt8.ofNat n)) = true) (b : UInt8) : p b = true := by
  have := List.all_eq_true.1 h b.toNat (List.mem_range.2 (UInt8.toNat_lt b))
  simpa using this
theorem asc_of {p : UInt8 → Bool} (h : ((List.range 256).all fun n => !(p (UInt8.ofNat n)) || Nat.blt (UInt8.ofNat n).toNat 128) = true) (b : UInt8) (hb : p b = true) : b.toNat < 128 := by
  have := all_b (p := fun b => !(p b) || Nat.blt b.toNat 128) h b
  simp only [hb, Bool.not_true, Bool.false_or] at this
  exact Nat.le_of_ble_eq_true this
theorem asc_blank (b : UInt8) (hb : isBlank b = true) : b.toNat < 128 := asc_of (by decide +kernel) b hb
theorem asc_beh (b : UInt8) (hb : isBeh b = true) : b.toNat < 128 := asc_of (by decide +kernel) b hb
theorem asc_dig (b : UInt8) (hb : isDig b = true) : b.toNat < 128 := asc_of (by decide +kernel) b hb
theorem asc_one (b : UInt8) (hb : isOne b = true) : b.toNat < 128 := asc_of (by decide +kernel) b hb
theorem asc_sgn (b : UInt8) (hb : isSgn b = true) : b.toNat < 128 := asc_of (by decide +kernel) b hb
theorem asc_expo (s : List UInt8) : Asc s (expo s).1 := by
  unfold expo
  cases s with
  | nil => exact fun j hj => absurd hj (Nat.not_lt_zero j)
  | cons e l =>
    dsimp only
    split
    · rename_i he
      split
      · exact fun j hj => absurd hj (Nat.not_lt_zero j)
      · dsimp only
        have h1 : Asc (e :: l) 1 := by
          intro j hj
          have : j = 0 := by omega
          subst this
          rcases he with rfl | rfl <;> exact Nat.le_of_ble_eq_true rfl
        have h2 : Asc l (sgn l) := by
          cases l with
          | nil => exact fun j hj => absurd hj (Nat.not_lt_zero j)
          | cons d r =>
            intro j hj
            simp only [sgn] at hj
            cases hd : isSgn d with
            | false => rw [hd] at hj; simp at hj
            | true =>
              rw [hd, if_pos rfl] at hj
              have : j = 0 := by omega
              subst this
              exact asc_sgn d hd
        have h3 := asc_wh asc_dig (l.drop (sgn l))
        refine asc_add (asc_add h1 h2) ?_
        rw [show (e :: l).drop (1 + sgn l) = l.drop (sgn l) by rw [Nat.add_comm]; rfl]
        exact h3
    · exact fun j hj => absurd hj (Nat.not_lt_zero j)
theorem head_getD {s : List UInt8} {c : UInt8} (h : s.head? = some c) : s.getD 0 0 = c := by
  cases s with
  | nil => cases h
  | cons d l => cases h; rfl
theorem asc_number (s : List UInt8) : Asc s (number s).2 := by
  have h1 := asc_wh asc_dig s
  unfold number
  dsimp only
  split
  · rename_i h46
    refine asc_add (asc_add (asc_add h1 ?_) ?_) ?_
    · intro j hj
      have : j = 0 := by omega
      subst this
      rw [head_getD h46]; decide
    · exact asc_wh asc_dig _
    · exact asc_expo _
  · exact h1
theorem rem_last : ∀ (s : List UInt8) (d n : Nat), rem s d = some n → s.getD (n - 1) 0 = 41
  | [], _, _, h => by simp [rem] at h
  | [_], _, _, h => by simp [rem] at h
  | a :: b :: l, d, n, h => by
    simp only [rem] at h
    split at h
    · obtain ⟨m, hm, rfl⟩ := Option.map_eq_some_iff.1 h
      have h1 := rem_le l (d + 1) m hm
      have := rem_last l (d + 1) m hm
      rw [show m + 2 - 1 = (m - 1) + 2 by omega]
      exact this
    · split at h
      · rename_i hab
        split at h
        · cases h; exact hab.2
        · obtain ⟨m, hm, rfl⟩ := Option.map_eq_some_iff.1 h
          have h1 := rem_le l (d - 1) m hm
          have := rem_last l (d - 1) m hm
          rw [show m + 2 - 1 = (m - 1) + 2 by omega]
          exact this
      · obtain ⟨m, hm, rfl⟩ := Option.map_eq_some_iff.1 h
        have h1 := rem_le (b :: l) d m hm
        have := rem_last (b :: l) d m hm
        rw [show m + 1 - 1 = (m - 1) + 1 by omega]
        exact this
theorem badT_end : ∀ (s : List UInt8), (s.getD (badT s) 0).toNat < 128 ∨ (1 ≤ badT s ∧ s.getD (badT s - 1) 0 = 34)
  | [] => .inl (by decide)
  | c :: l => by
    simp only [badT]
    split
    · rename_i h; subst h; exact .inl (Nat.le_of_ble_eq_true rfl)
    · split
      · rename_i h; subst h; exact .inr ⟨Nat.le_refl _, rfl⟩
      · rcases badT_end l with h | ⟨h1, h2⟩
        · exact .inl h
        · exact .inr ⟨by omega, by rw [show badT l + 1 - 1 = (badT l - 1) + 1 by omega]; exact h2⟩
theorem txt_end : ∀ (s : List UInt8), (s.getD (txt s).2 0).toNat < 128 ∨ (1 ≤ (txt s).2 ∧ s.getD ((txt s).2 - 1) 0 = 34)
  | [] => .inl (by decide)
  | [c] => by
    simp only [txt]
    split
    · rename_i h; subst h; exact .inl (Nat.le_of_ble_eq_true rfl)
    · split
      · rename_i h; subst h; exact .inr ⟨Nat.le_refl _, rfl⟩
      · exact .inl (Nat.le_of_ble_eq_true rfl)
  | c :: d :: l => by
    simp only [txt]
    split
    · rename_i h; subst h; exact .inl (Nat.le_of_ble_eq_true rfl)
    · split
      · rename_i h; subst h; exact .inr ⟨Nat.le_refl _, rfl⟩
      · split
        · split
          · rcases txt_end l with h | ⟨h1, h2⟩
            · exact .inl h
            · refine .inr ⟨by dsimp only; omega, ?_⟩
              dsimp only
              rw [show (txt l).2 + 2 - 1 = ((txt l).2 - 1) + 2 by omega]; exact h2
          · rcases badT_end (d :: l) with h | ⟨h1, h2⟩
            · exact .inl h
            · refine .inr ⟨by dsimp only; omega, ?_⟩
              dsimp only
              rw [show badT (d :: l) + 1 - 1 = (badT (d :: l) - 1) + 1 by omega]; exact h2
        · rcases txt_end (d :: l) with h | ⟨h1, h2⟩
          · exact .inl h
          · refine .inr ⟨by dsimp only; omega, ?_⟩
            dsimp only
            rw [show (txt (d :: l)).2 + 1 - 1 = ((txt (d :: l)).2 - 1) + 1 by omega]; exact h2
/-- A token ends between two characters. -/
theorem cut_bd {s : List UInt8} (hne : s ≠ []) : Bd s (cut s).2 ∨ (cut s).2 = if szL s = 0 then 1 else szL s := by
  cases s with
  | nil => exact absurd rfl hne
  | cons c l =>
    unfold cut
    dsimp only
    split
    · exact .inl (asc_bd (asc_wh asc_blank _))
    split
    · cases hr : rem (List.drop 2 (c :: l)) 1 with
      | some n =>
        have h1 := rem_le _ _ _ hr
        have := rem_last _ _ _ hr
        rw [getD_drop] at this
        refine .inl (.inr (.inr ?_))
        dsimp only
        rw [show n + 2 - 1 = 2 + (n - 1) by omega, this]; decide
      | none =>
        refine .inl (.inr (.inl ?_))
        dsimp only
        rw [List.getD_eq_getElem?_getD, List.getElem?_eq_none (Nat.le_refl _)]; decide
    split
    · exact .inl (asc_bd (asc_wh asc_beh _))
    split
    · exact .inl (asc_bd (asc_number _))
    split
    · rcases txt_end l with h | ⟨h1, h2⟩
      · exact .inl (.inr (.inl h))
      · refine .inl (.inr (.inr ?_))
        dsimp only
        rw [show (txt l).2 + 1 - 1 = ((txt l).2 - 1) + 1 by omega]
        have h2 : (c :: l).getD ((txt l).2 - 1 + 1) 0 = 34 := h2
        rw [h2]; decide
    split
    · rename_i h2
      refine .inl (.inr (.inr ?_))
      have hm : (c :: l).take 2 ∈ twos := List.contains_iff_mem.1 h2
      have e : (c :: l).getD (2 - 1) 0 = ((c :: l).take 2).getD 1 0 := (getD_take (by omega)).symm
      dsimp only
      rw [e]
      generalize (c :: l).take 2 = w at hm
      simp only [twos, List.mem_cons, List.not_mem_nil, or_false] at hm
      rcases hm with rfl | rfl | rfl | rfl | rfl | rfl | rfl | rfl | rfl | rfl | rfl <;> decide
    split
    · rename_i h1
      exact .inl (.inr (.inr (asc_one c h1)))
    · exact .inr rfl
theorem cut_valid {s : List UInt8} (hne : s ≠ []) (hv : validS s = true) : validS (s.take (cut s).2) = true ∧ validS (s.drop (cut s).2) = true := by
  have hc := cut_le hne
  rcases cut_bd hne with h | h
  · exact valid_split _ s _ (Nat.le_refl _) hv hc.2 h
  · obtain ⟨z, hz⟩ := valid_sz hne hv
    rw [if_neg z] at h
    rw [h]
    refine ⟨?_, hz⟩
    have hne2 : s.take (szL s) ≠ [] := by
      intro e
      rw [List.take_eq_nil_iff] at e
      rcases e with e | e
      · exact z e
      · exact hne e
    have hl := szL_le hne
    rw [validS_step hne2, szL_take hne z (Nat.le_refl _), if_neg z, List.drop_of_length_le (by rw [List.length_take]; omega)]
    rfl
end Go.Lex
/- Tokens: a token by itself is that token; a line's end behind one. -/
namespace Go.Lex
open Go.VM
theorem rem_takeN : ∀ (s : List UInt8) (d n : Nat), rem s d = some n → rem (s.take n) d = some n
  | [], _, _, h => by simp [rem] at h
  | [_], _, _, h => by simp [rem] at h
  | a :: b :: l, d, n, h => by
    simp only [rem] at h
    split at h
    · rename_i c1
      obtain ⟨m, hm, rfl⟩ := Option.map_eq_some_iff.1 h
      show rem (a :: b :: l.take m) d = _
      simp only [rem, if_pos c1, rem_takeN l (d + 1) m hm]
      rfl
    · rename_i c1
      split at h
      · rename_i c2
        split at h
        · rename_i c3
          cases h
          show rem [a, b] d = _
          simp only [rem, if_neg c1, if_pos c2, if_pos c3]
        · rename_i c3
          obtain ⟨m, hm, rfl⟩ := Option.map_eq_some_iff.1 h
          show rem (a :: b :: l.take m) d = _
          simp only [rem, if_neg c1, if_pos c2, if_neg c3, rem_takeN l (d - 1) m hm]
          rfl
      · rename_i c2
        obtain ⟨m, hm, rfl⟩ := Option.map_eq_some_iff.1 h
        have h2 := (rem_le (b :: l) d m hm).1
        have ih := rem_takeN (b :: l) d m hm
        obtain ⟨k, rfl⟩ : ∃ k, m = k + 1 := ⟨m - 1, by omega⟩
        have ih : rem (b :: l.take k) d = some (k + 1) := ih
        show rem (a :: b :: l.take k) d = _
        simp only [rem, if_neg c1, if_neg c2, ih]
        rfl
theorem rem_app (x : List UInt8) : ∀ (s : List UInt8) (d n : Nat), rem s d = some n → rem (s ++ x) d = some n
  | [], _, _, h => by simp [rem] at h
  | [_], _, _, h => by simp [rem] at h
  | a :: b :: l, d, n, h => by
    simp only [rem] at h
    show rem (a :: b :: (l ++ x)) d = _
    split at h
    · rename_i c1
      obtain ⟨m, hm, rfl⟩ := Option.map_eq_some_iff.1 h
      simp only [rem, if_pos c1, rem_app x l (d + 1) m hm]
      rfl
    · rename_i c1
      split at h
      · rename_i c2
        split at h
        · rename_i c3
          cases h
          simp only [rem, if_neg c1, if_pos c2, if_pos c3]
        · rename_i c3
          obtain ⟨m, hm, rfl⟩ := Option.map_eq_some_iff.1 h
          simp only [rem, if_neg c1, if_pos c2, if_neg c3, rem_app x l (d - 1) m hm]
          rfl
      · rename_i c2
        obtain ⟨m, hm, rfl⟩ := Option.map_eq_some_iff.1 h
        have ih : rem (b :: (l ++ x)) d = some m := rem_app x (b :: l) d m hm
        simp only [rem, if_neg c1, if_neg c2, ih]
        rfl
theorem number_eq (s : List UInt8) : number s = if (s.drop (wh isDig s)).head? = some 46 then (if wh isDig s + wh isDig (s.drop (wh isDig s + 1)) > 15 ∨ (expo (s.drop (wh isDig s + 1 + wh isDig (s.drop (wh isDig s + 1))))).2 - (wh isDig (s.drop (wh isDig s + 1)) : Int) < -22 ∨ (expo (s.drop (wh isDig s + 1 + wh isDig (s.drop (wh isDig s + 1))))).2 - (wh isDig (s.drop (wh isDig s + 1)) : Int) > 22 then 9 else 6, wh isDig s + 1 + wh isDig (s.drop (wh isDig s + 1)) + (expo (s.drop (wh isDig s + 1 + wh isDig (s.drop (wh isDig s + 1))))).1) else (5, wh isDig s) := rfl
theorem badT_line (r : List UInt8) : ∀ s : List UInt8, badT (s ++ 10 :: r) = badT s
  | [] => by
    show badT (10 :: r) = 0
    simp [badT]
  | c :: l => by
    show badT (c :: (l ++ 10 :: r)) = _
    simp only [badT, badT_line r l]
theorem txt_one {c : UInt8} (h1 : c ≠ 10) (h2 : c ≠ 34) : txt [c] = (9, 1) := by simp only [txt, if_neg h1, if_neg h2]
theorem txt_line (r : List UInt8) : ∀ s : List UInt8, txt (s ++ 10 :: r) = txt s
  | [] => by
    show txt (10 :: r) = (9, 0)
    cases r with
    | nil => rfl
    | cons d r => simp only [txt, if_true]
  | [c] => by
    show txt (c :: 10 :: r) = _
    by_cases h1 : c = 10
    · subst h1; simp only [txt, if_true]
    by_cases h2 : c = 34
    · simp only [txt, if_neg h1, if_pos h2]
    rw [txt_one h1 h2]
    by_cases h3 : c = 92
    · simp only [txt, if_neg h1, if_neg h2, if_pos h3, show isEsc 10 = false from rfl, Bool.false_eq_true, if_false]
      simp [badT]
    · have ih := txt_line r []
      have ih : txt (10 :: r) = (9, 0) := ih
      simp only [txt, if_neg h1, if_neg h2, if_neg h3, ih]
  | c :: d :: l => by
    have ih1 := txt_line r l
    have ih2 : txt (d :: (l ++ 10 :: r)) = txt (d :: l) := txt_line r (d :: l)
    have ih3 : badT (d :: (l ++ 10 :: r)) = badT (d :: l) := badT_line r (d :: l)
    show txt (c :: d :: (l ++ 10 :: r)) = _
    simp only [txt, ih1, ih2, ih3]
end Go.Lex
/- Tokens: cutting a token by itself, and before a line's end; what stands behind a token. -/
namespace Go.Lex
open Go.VM
def cutR (c : UInt8) (l s : List UInt8) : Nat × Nat :=
  if isBlank c then (1, wh isBlank s)
  else if s.take 2 = [40, 42] then (match rem (s.drop 2) 1 with | some n => (2, n + 2) | none => (9, s.length))
  else if isLow c then (nameK (s.takeWhile isBeh), wh isBeh s)
  else if isDig c then number s
  else if c = 34 then ((txt l).1, (txt l).2 + 1)
  else if twos.contains (s.take 2) then (8, 2)
  else if isOne c then (8, 1)
  else (9, if szL s = 0 then 1 else szL s)
theorem cut_cons (c : UInt8) (l : List UInt8) : cut (c :: l) = cutR c l (c :: l) := rfl
/-- What stands behind so many tokens. -/
def behind (s : List UInt8) : Nat → List UInt8
  | 0 => s
  | n + 1 => (behind s n).drop (cut (behind s n)).2
end Go.Lex
/- Tokens: a token looks at most three bytes further. -/
namespace Go.Lex
open Go.VM
theorem wh_app (f : UInt8 → Bool) : ∀ (p y : List UInt8), wh f (p ++ y) = if wh f p = p.length then p.length + wh f y else wh f p
  | [], y => by simp [wh]
  | c :: p, y => by
    rw [List.cons_append, wh_cons, wh_cons, wh_app f p y]
    cases f c with
    | false =>
      rw [if_neg (by simp), if_neg (by simp), if_neg (by simp)]
    | true =>
      rw [if_pos rfl, if_pos rfl]
      by_cases h : wh f p = p.length
      · rw [if_pos h, if_pos (by rw [h]; rfl)]; simp; omega
      · rw [if_neg h, if_neg (by simp; omega)]
theorem wh_pre {f : UInt8 → Bool} {p y y' : List UInt8} (h : wh f (p ++ y) < p.length) : wh f (p ++ y') = wh f (p ++ y) := by
  rw [wh_app] at h ⊢
  rw [wh_app f p y]
  by_cases e : wh f p = p.length
  · rw [if_pos e] at h; omega
  · rw [if_neg e, if_neg e]
theorem tw_pre {f : UInt8 → Bool} {p y y' : List UInt8} (h : wh f (p ++ y) < p.length) : (p ++ y').takeWhile f = (p ++ y).takeWhile f := by
  rw [← wh_take f (p ++ y'), ← wh_take f (p ++ y), wh_pre (y' := y') h, List.take_append_of_le_length (by omega), List.take_append_of_le_length (by omega)]
theorem head_pre {q : List UInt8} (h : q ≠ []) (y : List UInt8) : (q ++ y).head? = q.head? := by
  cases q with
  | nil => exact absurd rfl h
  | cons c q => rfl
theorem expo_eq (e : UInt8) (l : List UInt8) : expo (e :: l) = if e = 101 ∨ e = 69 then (if wh isDig (l.drop (sgn l)) = 0 then (0, 0) else
    (1 + sgn l + wh isDig (l.drop (sgn l)), if l.head? = some 45 then -(((min (numV 0 ((l.drop (sgn l)).take (wh isDig (l.drop (sgn l))))) 1000000 : Nat) : Int)) else ((min (numV 0 ((l.drop (sgn l)).take (wh isDig (l.drop (sgn l))))) 1000000 : Nat) : Int))) else (0, 0) := rfl
theorem expo_pre {q y y' : List UInt8} (h : (expo (q ++ y)).1 + 3 ≤ q.length) : expo (q ++ y') = expo (q ++ y) := by
  match q, h with
  | [], h => simp at h
  | [_], h => simp at h
  | [_, _], h => simp at h
  | e :: a :: b :: r, h =>
    have h : (expo (e :: (a :: b :: r ++ y))).1 + 3 ≤ (a :: b :: r).length + 1 := h
    show expo (e :: (a :: b :: r ++ y')) = expo (e :: (a :: b :: r ++ y))
    generalize hl : a :: b :: r = l at *
    have hne : l ≠ [] := by rw [← hl]; simp
    have hlen : 2 ≤ l.length := by rw [← hl]; simp
    have hs : ∀ z, sgn (l ++ z) = sgn l := by intro z; rw [← hl]; rfl
    have hsl : sgn l ≤ 1 := by
      rw [← hl]; simp only [sgn]; split <;> omega
    have hd : ∀ z, (l ++ z).drop (sgn l) = l.drop (sgn l) ++ z := fun z => List.drop_append_of_le_length (by omega)
    have hdl : (l.drop (sgn l)).length = l.length - sgn l := List.length_drop
    rw [expo_eq] at h
    rw [expo_eq, expo_eq]
    simp only [hs, hd, head_pre hne] at h ⊢
    by_cases he : e = 101 ∨ e = 69
    · rw [if_pos he] at h
      rw [if_pos he, if_pos he]
      by_cases hz : wh isDig (l.drop (sgn l) ++ y) = 0
      · have hz' : wh isDig (l.drop (sgn l) ++ y') = 0 := by rw [wh_pre (y := y) (by omega)]; exact hz
        rw [if_pos hz, if_pos hz']
      · rw [if_neg hz] at h
        have h : 1 + sgn l + wh isDig (l.drop (sgn l) ++ y) + 3 ≤ l.length + 1 := h
        have hw := wh_pre (f := isDig) (p := l.drop (sgn l)) (y := y) (y' := y') (by omega)
        rw [hw, if_neg hz, if_neg hz, List.take_append_of_le_length (by omega), List.take_append_of_le_length (by omega)]
    · rw [if_neg he, if_neg he]
theorem number_pre {p y y' : List UInt8} (h : (number (p ++ y)).2 + 3 ≤ p.length) : number (p ++ y') = number (p ++ y) := by
  rw [number_eq] at h
  have hn : wh isDig (p ++ y) < p.length := by
    by_cases h46 : ((p ++ y).drop (wh isDig (p ++ y))).head? = some 46
    · rw [if_pos h46] at h; dsimp only at h; omega
    · rw [if_neg h46] at h; dsimp only at h; omega
  have w1 := wh_pre (y' := y') hn
  have d1 : ∀ z, (p ++ z).drop (wh isDig (p ++ y)) = p.drop (wh isDig (p ++ y)) ++ z := fun z => List.drop_append_of_le_length (by omega)
  have hne : p.drop (wh isDig (p ++ y)) ≠ [] := by
    intro e
    have := List.drop_eq_nil_iff.1 e
    omega
  rw [number_eq, number_eq (p ++ y), w1]
  rw [d1, head_pre hne] at h
  rw [d1, d1, head_pre hne, head_pre hne]
  by_cases h46 : (p.drop (wh isDig (p ++ y))).head? = some 46
  · rw [if_pos h46] at h
    rw [if_pos h46, if_pos h46]
    generalize wh isDig (p ++ y) = n at *
    have d2 : ∀ z, (p ++ z).drop (n + 1) = p.drop (n + 1) ++ z := fun z => List.drop_append_of_le_length (by omega)
    have hl2 : (p.drop (n + 1)).length = p.length - (n + 1) := List.length_drop
    rw [d2] at h
    dsimp only at h
    have w2 := wh_pre (f := isDig) (p := p.drop (n + 1)) (y := y) (y' := y') (by omega)
    rw [d2, d2, w2]
    generalize wh isDig (p.drop (n + 1) ++ y) = k at *
    have d3 : ∀ z, (p ++ z).drop (n + 1 + k) = p.drop (n + 1 + k) ++ z := fun z => List.drop_append_of_le_length (by omega)
    have hl3 : (p.drop (n + 1 + k)).length = p.length - (n + 1 + k) := List.length_drop
    rw [d3] at h
    rw [d3, d3, expo_pre (y := y) (by omega)]
  · rw [if_neg h46, if_neg h46]
theorem rem_pre {p y y' : List UInt8} {d m : Nat} (h : rem (p ++ y) d = some m) (hm : m ≤ p.length) : rem (p ++ y') d = some m := by
  have h1 := rem_takeN _ _ _ h
  rw [List.take_append_of_le_length hm] at h1
  have h2 := rem_app (p.drop m ++ y') _ _ _ h1
  rw [← List.append_assoc, List.take_append_drop] at h2
  exact h2
theorem badT_pre : ∀ {p y y' : List UInt8}, badT (p ++ y) < p.length → badT (p ++ y') = badT (p ++ y)
  | [], _, _, h => by simp at h
  | c :: p, y, y', h => by
    have h : badT (c :: (p ++ y)) < p.length + 1 := h
    show badT (c :: (p ++ y')) = badT (c :: (p ++ y))
    simp only [badT] at h ⊢
    by_cases h1 : c = 10
    · rw [if_pos h1, if_pos h1]
    · rw [if_neg h1] at h
      rw [if_neg h1, if_neg h1]
      by_cases h2 : c = 34
      · rw [if_pos h2, if_pos h2]
      · rw [if_neg h2] at h
        rw [if_neg h2, if_neg h2, badT_pre (p := p) (y := y) (y' := y') (by omega)]
theorem txt_pre : ∀ {p y y' : List UInt8}, (txt (p ++ y)).2 + 2 ≤ p.length → txt (p ++ y') = txt (p ++ y)
  | [], _, _, h => by simp at h
  | [c], y, y', h => by simp at h
  | c :: d :: p, y, y', h => by
    have h : (txt (c :: d :: (p ++ y))).2 + 2 ≤ p.length + 2 := h
    show txt (c :: d :: (p ++ y')) = txt (c :: d :: (p ++ y))
    simp only [txt] at h ⊢
    by_cases h1 : c = 10
    · rw [if_pos h1, if_pos h1]
    rw [if_neg h1] at h
    rw [if_neg h1, if_neg h1]
    by_cases h2 : c = 34
    · rw [if_pos h2, if_pos h2]
    rw [if_neg h2] at h
    rw [if_neg h2, if_neg h2]
    by_cases h3 : c = 92
    · rw [if_pos h3] at h
      rw [if_pos h3, if_pos h3]
      cases he : isEsc d with
      | true =>
        rw [he, if_pos rfl] at h
        simp only [if_true]
        dsimp only at h
        rw [txt_pre (p := p) (y := y) (y' := y') (by omega)]
      | false =>
        rw [he, if_neg (by simp)] at h
        simp only [Bool.false_eq_true, if_false]
        dsimp only at h
        have := badT_pre (p := d :: p) (y := y) (y' := y') (by
          show badT (d :: (p ++ y)) < p.length + 1
          omega)
        have this : badT (d :: (p ++ y')) = badT (d :: (p ++ y)) := this
        rw [this]
    · rw [if_neg h3] at h
      rw [if_neg h3, if_neg h3]
      dsimp only at h
      have := txt_pre (p := d :: p) (y := y) (y' := y') (by
        show (txt (d :: (p ++ y))).2 + 2 ≤ p.length + 1
        omega)
      have this : txt (d :: (p ++ y')) = txt (d :: (p ++ y)) := this
      rw [this]
/-- A token that ends three bytes ahead of a change stays. -/
theorem cut_pre {p y y' : List UInt8} (hz : szL (p ++ y) ≠ 0) (h : (cut (p ++ y)).2 + 3 ≤ p.length) : cut (p ++ y') = cut (p ++ y) := by
  match p, hz, h with
  | [], _, h => simp at h
  | [_], _, h => simp at h
  | c :: d :: q, hz, h =>
  have h : (cut (c :: (d :: q ++ y))).2 + 3 ≤ (c :: d :: q).length := h
  show cut (c :: (d :: q ++ y')) = cut (c :: (d :: q ++ y))
  rw [cut_cons] at h
  rw [cut_cons, cut_cons]
  unfold cutR at h ⊢
  have e : ∀ z, c :: (d :: q ++ z) = (c :: d :: q) ++ z := fun _ => rfl
  rw [e] at h
  rw [e, e]
  have t2 : ∀ z, (c :: d :: q ++ z).take 2 = [c, d] := fun _ => rfl
  have dr2 : ∀ z, (c :: d :: q ++ z).drop 2 = q ++ z := fun _ => rfl
  rw [t2, dr2] at h
  rw [t2, t2, dr2, dr2]
  cases hb : isBlank c with
  | true =>
    rw [hb] at h
    simp only [if_true] at h ⊢
    rw [wh_pre (y := y) (by omega)]
  | false =>
  rw [hb] at h
  simp only [Bool.false_eq_true, if_false] at h ⊢
  by_cases h2 : [c, d] = [40, 42]
  · rw [if_pos h2] at h
    rw [if_pos h2, if_pos h2]
    cases hr : rem (q ++ y) 1 with
    | none =>
      rw [hr] at h
      dsimp only at h
      rw [List.length_append] at h
      omega
    | some m =>
      rw [hr] at h
      have h : m + 2 + 3 ≤ q.length + 2 := h
      rw [rem_pre hr (by omega)]
  rw [if_neg h2] at h
  rw [if_neg h2, if_neg h2]
  cases hlo : isLow c with
  | true =>
    rw [hlo] at h
    simp only [if_true] at h ⊢
    rw [tw_pre (y := y) (by omega), wh_pre (y := y) (by omega)]
  | false =>
  rw [hlo] at h
  simp only [Bool.false_eq_true, if_false] at h ⊢
  cases hdi : isDig c with
  | true =>
    rw [hdi] at h
    simp only [if_true] at h ⊢
    exact number_pre h
  | false =>
  rw [hdi] at h
  simp only [Bool.false_eq_true, if_false] at h ⊢
  by_cases hq : c = 34
  · rw [if_pos hq] at h
    rw [if_pos hq, if_pos hq]
    have h : (txt (d :: q ++ y)).2 + 1 + 3 ≤ (d :: q).length + 1 := h
    rw [txt_pre (y := y) (by omega)]
  rw [if_neg hq] at h
  rw [if_neg hq, if_neg hq]
  by_cases htw : twos.contains [c, d] = true
  · rw [if_pos htw, if_pos htw]
  rw [if_neg htw] at h
  rw [if_neg htw, if_neg htw]
  by_cases ho : isOne c = true
  · rw [if_pos ho, if_pos ho]
  rw [if_neg ho] at h
  rw [if_neg ho, if_neg ho]
  have hz : szL (c :: d :: q ++ y) ≠ 0 := hz
  rw [if_neg hz] at h
  dsimp only at h
  have es : szL (c :: d :: q ++ y') = szL (c :: d :: q ++ y) := szL_same hz (fun j hj => by rw [getD_app (by omega), getD_app (by omega)]) (by rw [List.length_append]; omega)
  rw [es]
end Go.Lex
/- Tokens again, behind an edit, as plain functions. -/
namespace Go.Lex
open Go.VM
def bytesL (l : List (Nat × List UInt8)) : List UInt8 := (l.map (·.2)).flatten
/-- How many tokens end three bytes ahead of so many. -/
def keeps : Nat → List (Nat × List UInt8) → Nat
  | _, [] => 0
  | r, p :: l => if p.2.length + 2 < r then keeps (r - p.2.length) l + 1 else 0
theorem keeps_le : ∀ (l : List (Nat × List UInt8)) (r : Nat), keeps r l ≤ l.length
  | [], _ => Nat.le_refl _
  | p :: l, r => by
    simp only [keeps]
    split
    · have := keeps_le l (r - p.2.length); simp; omega
    · simp
theorem bytesL_cons (p : Nat × List UInt8) (l : List (Nat × List UInt8)) : bytesL (p :: l) = p.2 ++ bytesL l := rfl
/-- The tokens that end three bytes ahead of a change stay. -/
theorem keep_tokens : ∀ (n : Nat) (pre y y' : List UInt8), (pre ++ y).length ≤ n → validS (pre ++ y) = true →
    (bytesL ((tokens (pre ++ y)).take (keeps pre.length (tokens (pre ++ y))))).length ≤ pre.length ∧
    tokens (pre ++ y') = (tokens (pre ++ y)).take (keeps pre.length (tokens (pre ++ y))) ++ tokens ((pre ++ y').drop (bytesL ((tokens (pre ++ y)).take (keeps pre.length (tokens (pre ++ y))))).length) ∧
    validS ((pre ++ y').drop (bytesL ((tokens (pre ++ y)).take (keeps pre.length (tokens (pre ++ y))))).length) = validS (pre ++ y') := by
  intro n
  induction n with
  | zero =>
    intro pre y y' hl hv
    have e : pre ++ y = [] := List.eq_nil_of_length_eq_zero (by omega)
    rw [e, tokens_nil]
    refine ⟨Nat.zero_le _, rfl, rfl⟩
  | succ n ih =>
    intro pre y y' hl hv
    by_cases hne : pre ++ y = []
    · rw [hne, tokens_nil]
      refine ⟨Nat.zero_le _, rfl, rfl⟩
    have hc := cut_le hne
    obtain ⟨hz, _⟩ := valid_sz hne hv
    have hcv := cut_valid hne hv
    rw [tokens_cons hne]
    simp only [keeps]
    have hlen : ((pre ++ y).take (cut (pre ++ y)).2).length = (cut (pre ++ y)).2 := by rw [List.length_take]; omega
    rw [hlen]
    by_cases hk : (cut (pre ++ y)).2 + 2 < pre.length
    · rw [if_pos hk]
      have hcut : cut (pre ++ y') = cut (pre ++ y) := cut_pre hz (by omega)
      generalize hC : cut (pre ++ y) = C at *
      have d : ∀ z, (pre ++ z).drop C.2 = pre.drop C.2 ++ z := fun z => List.drop_append_of_le_length (by omega)
      have t : ∀ z, (pre ++ z).take C.2 = pre.take C.2 := fun z => List.take_append_of_le_length (by omega)
      have hd : (pre.drop C.2).length = pre.length - C.2 := List.length_drop
      have ih := ih (pre.drop C.2) y y' (by rw [List.length_append] at hl ⊢; omega) (by rw [← d]; exact hcv.2)
      rw [hd] at ih
      rw [d, t]
      generalize hK : keeps (pre.length - C.2) (tokens (pre.drop C.2 ++ y)) = k at *
      obtain ⟨i1, i2, i3⟩ := ih
      have hpl : (pre.take C.2).length = C.2 := by rw [List.length_take]; omega
      have hb : (bytesL (((C.1, pre.take C.2) :: tokens (pre.drop C.2 ++ y)).take (k + 1))).length = C.2 + (bytesL ((tokens (pre.drop C.2 ++ y)).take k)).length := by
        rw [List.take_succ_cons, bytesL_cons, List.length_append, hpl]
      rw [hb]
      have hdd : (pre ++ y').drop (C.2 + (bytesL ((tokens (pre.drop C.2 ++ y)).take k)).length) = (pre.drop C.2 ++ y').drop (bytesL ((tokens (pre.drop C.2 ++ y)).take k)).length := by
        rw [← List.drop_drop, d y']
      rw [hdd]
      refine ⟨by omega, ?_, ?_⟩
      · have hne' : pre ++ y' ≠ [] := by
          intro e
          have := congrArg List.length e
          rw [List.length_append] at this
          have : pre.length + y'.length = 0 := this
          omega
        rw [tokens_cons hne', hcut, d, t, List.take_succ_cons, List.cons_append]
        exact congrArg _ i2
      · have hp : validS (pre.take C.2) = true := by have := hcv.1; rw [t] at this; exact this
        have hva := valid_app _ (pre.take C.2) (pre.drop C.2 ++ y') (Nat.le_refl _) hp
        rw [← List.append_assoc, List.take_append_drop] at hva
        exact i3.trans hva.symm
    · rw [if_neg hk]
      exact ⟨Nat.zero_le _, rfl, rfl⟩
/-- How many things at the beginnings of two rows are the same. -/
def alike : List (Nat × List UInt8) → List (Nat × List UInt8) → Nat
  | a :: l, b :: m => if a = b then alike l m + 1 else 0
  | _, _ => 0
theorem alike_le : ∀ (l m : List (Nat × List UInt8)), alike l m ≤ l.length ∧ alike l m ≤ m.length
  | [], m => ⟨Nat.zero_le _, Nat.zero_le _⟩
  | a :: l, [] => ⟨Nat.zero_le _, Nat.zero_le _⟩
  | a :: l, b :: m => by
    have := alike_le l m
    simp only [alike]
    split
    · simp; omega
    · simp
theorem alike_refl : ∀ (l : List (Nat × List UInt8)), alike l l = l.length
  | [] => rfl
  | a :: l => by simp only [alike, if_true, alike_refl l, List.length_cons]
end Go.Lex
/- Edits, as plain functions. -/
namespace Go.Lex
open Go.VM
def okS (s : List UInt8) : Int := if 65536 < s.length then 40 else if validS s = false then 4 else 0
def outE (s : List UInt8) (f t : Int) (x : List UInt8) : List UInt8 := s.take f.toNat ++ x ++ s.drop t.toNat
/-- The text behind an edit, or why it is refused. -/
def doS (s : List UInt8) (f t : Int) (x : List UInt8) : List UInt8 × Int :=
  if okS s ≠ 0 then ([], okS s)
  else if f < 0 ∨ f > t ∨ t > (s.length : Int) then ([], 1)
  else if okS (outE s f t x) ≠ 0 then ([], okS (outE s f t x)) else (outE s f t x, 0)
theorem okS_zero {s : List UInt8} (h : okS s = 0) : s.length ≤ 65536 ∧ validS s = true := by
  unfold okS at h
  by_cases h1 : 65536 < s.length
  · rw [if_pos h1] at h; exact absurd h (by decide)
  · rw [if_neg h1] at h
    cases hv : validS s with
    | false => rw [hv, if_pos rfl] at h; exact absurd h (by decide)
    | true => exact ⟨by omega, rfl⟩
theorem okS_of {s : List UInt8} (h1 : s.length ≤ 65536) (h2 : validS s = true) : okS s = 0 := by
  unfold okS
  rw [if_neg (by omega), h2, if_neg (by simp)]
theorem doS_ok {s x : List UInt8} {f t : Int} (h : (doS s f t x).2 = 0) : okS s = 0 ∧ 0 ≤ f ∧ f ≤ t ∧ t ≤ (s.length : Int) ∧ okS (outE s f t x) = 0 ∧ doS s f t x = (outE s f t x, 0) := by
  unfold doS at h ⊢
  by_cases h1 : okS s ≠ 0
  · rw [if_pos h1] at h; exact absurd h h1
  rw [if_neg h1] at h
  rw [if_neg h1]
  by_cases h2 : f < 0 ∨ f > t ∨ t > (s.length : Int)
  · rw [if_pos h2] at h; exact absurd h (by decide)
  rw [if_neg h2] at h
  rw [if_neg h2]
  by_cases h3 : okS (outE s f t x) ≠ 0
  · rw [if_pos h3] at h; exact absurd h h3
  rw [if_neg h3]
  exact ⟨Decidable.not_not.1 h1, by omega, by omega, by omega, Decidable.not_not.1 h3, rfl⟩
end Go.Lex
