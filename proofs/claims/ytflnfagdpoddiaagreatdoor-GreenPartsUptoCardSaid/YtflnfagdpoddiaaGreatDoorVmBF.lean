/-
  (A part of the proof: Utf, Utf2, Kit3, Kit4, Kit5, LexSpec, ParseSpec, ParseTot, LexLoc, LexLoc2, LexLoc3, LexPre, RelexSpec, ParseText, GreenSpec, ParseDep, GreenSpec2, GreenPl, GreenPl2.)
-/
import Derived.Test.YtflnfagdpoddiaaGreatDoorVmBD
import Derived.Test.YtflnfagdpoddiaaGreatDoorVmAJ
import Derived.Lib.TrimUEq
import Derived.Lib.ValidU
import Derived.Lib.AtoiAll
namespace Go.VM
open Go.Lib

def szN (n b0 b1 b2 b3 : Nat) : Nat :=
  if b0 < 128 then 1
  else if 194 ≤ b0 ∧ b0 ≤ 223 then (if n < 2 ∨ b1 < 128 ∨ 191 < b1 then 0 else 2)
  else if 224 ≤ b0 ∧ b0 ≤ 239 then (if n < 3 ∨ b1 < 128 ∨ 191 < b1 ∨ b2 < 128 ∨ 191 < b2 ∨ (b0 = 224 ∧ b1 < 160) ∨ (b0 = 237 ∧ 159 < b1) then 0 else 3)
  else if 240 ≤ b0 ∧ b0 ≤ 244 then (if n < 4 ∨ b1 < 128 ∨ 191 < b1 ∨ b2 < 128 ∨ 191 < b2 ∨ b3 < 128 ∨ 191 < b3 ∨ (b0 = 240 ∧ b1 < 144) ∨ (b0 = 244 ∧ 143 < b1) then 0 else 4)
  else 0
set_option maxHeartbeats 2000000 in
theorem szN_decode {n b0 b1 b2 b3 : Nat} (h0 : b0 < 256) (h1 : b1 < 256) (h2 : b2 < 256) (h3 : b3 < 256) :
    (szN n b0 b1 b2 b3 = 0 ∧ decodeN n b0 b1 b2 b3 = (65533, 1)) ∨ (szN n b0 b1 b2 b3 = 1 ∧ b0 < 128 ∧ decodeN n b0 b1 b2 b3 = (b0, 1)) ∨ (2 ≤ szN n b0 b1 b2 b3 ∧ (decodeN n b0 b1 b2 b3).2 = szN n b0 b1 b2 b3) := by
  by_cases c0 : b0 < 128
  · refine .inr (.inl ⟨?_, c0, ?_⟩)
    · unfold szN; rw [if_pos c0]
    · unfold decodeN; rw [if_pos c0]
  by_cases z : szN n b0 b1 b2 b3 = 0
  · refine .inl ⟨z, ?_⟩
    unfold szN at z
    unfold decodeN
    repeat' split
    all_goals first | rfl | (exfalso; (repeat' (split at z)); all_goals omega)
  · have hc : (szN n b0 b1 b2 b3 = 2 ∧ (194 ≤ b0 ∧ b0 ≤ 223) ∧ ¬ (n < 2 ∨ b1 < 128 ∨ 191 < b1)) ∨
        (szN n b0 b1 b2 b3 = 3 ∧ (224 ≤ b0 ∧ b0 ≤ 239) ∧ ¬ (n < 3 ∨ b1 < 128 ∨ 191 < b1 ∨ b2 < 128 ∨ 191 < b2 ∨ (b0 = 224 ∧ b1 < 160) ∨ (b0 = 237 ∧ 159 < b1))) ∨
        (szN n b0 b1 b2 b3 = 4 ∧ (240 ≤ b0 ∧ b0 ≤ 244) ∧ ¬ (n < 4 ∨ b1 < 128 ∨ 191 < b1 ∨ b2 < 128 ∨ 191 < b2 ∨ b3 < 128 ∨ 191 < b3 ∨ (b0 = 240 ∧ b1 < 144) ∨ (b0 = 244 ∧ 143 < b1))) := by
      unfold szN at z ⊢
      rw [if_neg c0] at z ⊢
      by_cases c1 : 194 ≤ b0 ∧ b0 ≤ 223
      · rw [if_pos c1] at z ⊢
        by_cases d : n < 2 ∨ b1 < 128 ∨ 191 < b1
        · rw [if_pos d] at z; omega
        · rw [if_neg d]; exact .inl ⟨rfl, c1, d⟩
      rw [if_neg c1] at z ⊢
      by_cases c2 : 224 ≤ b0 ∧ b0 ≤ 239
      · rw [if_pos c2] at z ⊢
        by_cases d : n < 3 ∨ b1 < 128 ∨ 191 < b1 ∨ b2 < 128 ∨ 191 < b2 ∨ (b0 = 224 ∧ b1 < 160) ∨ (b0 = 237 ∧ 159 < b1)
        · rw [if_pos d] at z; omega
        · rw [if_neg d]; exact .inr (.inl ⟨rfl, c2, d⟩)
      rw [if_neg c2] at z ⊢
      by_cases c3 : 240 ≤ b0 ∧ b0 ≤ 244
      · rw [if_pos c3] at z ⊢
        by_cases d : n < 4 ∨ b1 < 128 ∨ 191 < b1 ∨ b2 < 128 ∨ 191 < b2 ∨ b3 < 128 ∨ 191 < b3 ∨ (b0 = 240 ∧ b1 < 144) ∨ (b0 = 244 ∧ 143 < b1)
        · rw [if_pos d] at z; omega
        · rw [if_neg d]; exact .inr (.inr ⟨rfl, c3, d⟩)
      · rw [if_neg c3] at z; omega
    refine .inr (.inr ?_)
    rcases hc with ⟨e, c, d⟩ | ⟨e, c, d⟩ | ⟨e, c, d⟩
    all_goals
      rw [e]
      refine ⟨by omega, ?_⟩
      unfold decodeN
      repeat' split
      all_goals first | rfl | (exfalso; omega)
theorem szN_le {n b0 b1 b2 b3 : Nat} (h : 1 ≤ n) : szN n b0 b1 b2 b3 ≤ n := by
  unfold szN
  repeat' split
  all_goals omega
def szL (l : List UInt8) : Nat := szN l.length (l.getD 0 0).toNat (l.getD 1 0).toNat (l.getD 2 0).toNat (l.getD 3 0).toNat
theorem szL_decode (l : List UInt8) : (szL l = 0 ∧ decodeL l = (65533, 1)) ∨ (szL l = 1 ∧ (l.getD 0 0).toNat < 128 ∧ decodeL l = ((l.getD 0 0).toNat, 1)) ∨ (2 ≤ szL l ∧ (decodeL l).2 = szL l) := by
  unfold szL
  rw [decodeL_N]
  exact szN_decode (UInt8.toNat_lt _) (UInt8.toNat_lt _) (UInt8.toNat_lt _) (UInt8.toNat_lt _)
theorem szL_le {l : List UInt8} (h : l ≠ []) : szL l ≤ l.length := szN_le (List.length_pos_iff.2 h)
def validF : Nat → List UInt8 → Bool
  | 0, _ => true
  | n + 1, l => if l = [] then true else if szL l = 0 then false else validF n (l.drop (szL l))
theorem validF_eq : ∀ (n : Nat) (l : List UInt8), validGoD n l = validF n l
  | 0, _ => rfl
  | n + 1, l => by
    unfold validGoD validF
    by_cases h : l = []
    · rw [if_pos h, if_pos h]
    rw [if_neg h, if_neg h]
    rcases szL_decode l with ⟨h1, h2⟩ | ⟨h1, h2, h3⟩ | ⟨h1, h2⟩
    · have hd : (decodeL l).1 = 65533 ∧ (decodeL l).2 = 1 := by rw [h2]; exact ⟨rfl, rfl⟩
      rw [if_pos hd, if_pos h1]
    · have hd : ¬ ((decodeL l).1 = 65533 ∧ (decodeL l).2 = 1) := by rw [h3]; show ¬ ((l.getD 0 0).toNat = 65533 ∧ _); omega
      have hz : ¬ szL l = 0 := by omega
      rw [if_neg hd, if_neg hz, h3, h1]; exact validF_eq n _
    · have hd : ¬ ((decodeL l).1 = 65533 ∧ (decodeL l).2 = 1) := by omega
      have hz : ¬ szL l = 0 := by omega
      rw [if_neg hd, if_neg hz, h2]; exact validF_eq n _
def validS (l : List UInt8) : Bool := validF l.length l
theorem validS_eq (l : List UInt8) : validD l = validS l := validF_eq _ _
theorem validF_fuel : ∀ (n m : Nat) (l : List UInt8), l.length ≤ n → l.length ≤ m → validF n l = validF m l
  | 0, 0, _, _, _ => rfl
  | 0, m + 1, l, h, _ => by
    have : l = [] := List.eq_nil_of_length_eq_zero (by omega)
    subst this
    simp [validF]
  | n + 1, 0, l, _, h => by
    have : l = [] := List.eq_nil_of_length_eq_zero (by omega)
    subst this
    simp [validF]
  | n + 1, m + 1, l, hn, hm => by
    unfold validF
    by_cases h : l = []
    · rw [if_pos h, if_pos h]
    rw [if_neg h, if_neg h]
    by_cases hz : szL l = 0
    · rw [if_pos hz, if_pos hz]
    · rw [if_neg hz, if_neg hz, validF_fuel n m _ (by rw [List.length_drop]; omega) (by rw [List.length_drop]; omega)]
theorem validS_step {l : List UInt8} (h : l ≠ []) : validS l = if szL l = 0 then false else validS (l.drop (szL l)) := by
  unfold validS
  have hl : 0 < l.length := List.length_pos_iff.2 h
  obtain ⟨n, hn⟩ : ∃ n, l.length = n + 1 := ⟨l.length - 1, by omega⟩
  rw [hn]
  show (if l = [] then true else _) = _
  rw [if_neg h]
  by_cases hz : szL l = 0
  · rw [if_pos hz, if_pos hz]
  · rw [if_neg hz, if_neg hz]
    exact validF_fuel _ _ _ (by rw [List.length_drop]; omega) (Nat.le_refl _)
end Go.VM
namespace Go.VM
open Go.Lib

section
variable {β : Type} {O : Orc}
theorem planS_lib {f : List AV → Res AV} {args : List AV} {v : AV} (h : f args = .ok v) (st : St) (K : Kv β) : planS O (primP (.lib f) args) st K = K v st q0 := by
  simp only [planS, outS, primP, h, planO, bindO_ok]
theorem libValid_ok {s : List UInt8} (h : s.length ≤ 9223372036854775807) : libValid [.str s] = .ok (.bool (validS s)) := by
  simp only [libValid, Nat.ble_eq_true_of_le h, validS_eq]
end
end Go.VM
namespace Go.VM
open Go

@[simp] theorem oneOf_one (v : AV) : oneOf [v] = v := id rfl
@[simp] theorem notNil_ip (cs : List AV) : notNil (.ip cs) = true := id rfl
@[simp] theorem notNil_mp (i o : Nat) : notNil (.mp i o) = true := id rfl
@[simp] theorem drop1 (a : AV) (l : List AV) : (a :: l).drop 1 = l := id rfl
@[simp] theorem drop2 (a b : AV) (l : List AV) : (a :: b :: l).drop 2 = l := id rfl
@[simp] theorem drop3 (a b c : AV) (l : List AV) : (a :: b :: c :: l).drop 3 = l := id rfl
@[simp] theorem drop4 (a b c d : AV) (l : List AV) : (a :: b :: c :: d :: l).drop 4 = l := id rfl
@[simp] theorem drop5 (a b c d e : AV) (l : List AV) : (a :: b :: c :: d :: e :: l).drop 5 = l := id rfl
@[simp] theorem takeO1 (a : AV) (l : List AV) : takeO 1 true (a :: l) = some (.agg [a]) := id rfl
@[simp] theorem takeO2 (a b : AV) (l : List AV) : takeO 2 true (a :: b :: l) = some (.agg [a, b]) := id rfl
@[simp] theorem takeO3 (a b c : AV) (l : List AV) : takeO 3 true (a :: b :: c :: l) = some (.agg [a, b, c]) := id rfl
@[simp] theorem takeO4 (a b c d : AV) (l : List AV) : takeO 4 true (a :: b :: c :: d :: l) = some (.agg [a, b, c, d]) := id rfl
@[simp] theorem cells_agg (cs : List AV) : AV.cells (.agg cs) = cs := id rfl
@[simp] theorem cells_str (s : List UInt8) : AV.cells (.str s) = [.str s] := id rfl
@[simp] theorem cells_int (k : IntKind) (n : Int) : AV.cells (.int k n) = [.int k n] := id rfl
@[simp] theorem cells_fn (f : Fn) (a b : List AV) : AV.cells (.fn f a b) = [.fn f a b] := id rfl
@[simp] theorem apart_made1 (i : Nat) (o : VM.Obj) : apart q0 ⟨[], .made i o⟩ = true := id rfl
@[simp] theorem apart_made2 (i : Nat) (o : VM.Obj) : apart ⟨[], .kept⟩ ⟨[], .made i o⟩ = true := id rfl
@[simp] theorem apart_wrote1 (i : Nat) (o : VM.Obj) : apart ⟨[], .kept⟩ ⟨[i], .wrote i o⟩ = true := id rfl
theorem wrapN {n : Nat} (h : n ≤ 9223372036854775807) : IntKind.wrap .i64 (n : Int) = (n : Int) := wrap_i64 (by omega) (by omega)
theorem wrapA {n m : Nat} (h : n + m ≤ 9223372036854775807) : IntKind.wrap .i64 ((n : Int) + (m : Int)) = ((n + m : Nat) : Int) := by rw [← Int.natCast_add]; exact wrapN h
theorem wrapA1 {n : Nat} (h : n + 1 ≤ 9223372036854775807) : IntKind.wrap .i64 ((n : Int) + 1) = ((n + 1 : Nat) : Int) := wrapA (m := 1) h
theorem wrapA2 {n : Nat} (h : n + 2 ≤ 9223372036854775807) : IntKind.wrap .i64 ((n : Int) + 2) = ((n + 2 : Nat) : Int) := wrapA (m := 2) h
theorem wrapS {n m : Nat} (h : m ≤ n) (hn : n ≤ 9223372036854775807) : IntKind.wrap .i64 ((n : Int) - (m : Int)) = ((n - m : Nat) : Int) := by rw [← wrapN (n := n - m) (by omega)]; congr 1; omega
theorem ble_of {a b : Nat} (h : a ≤ b) : Nat.ble a b = true := Nat.ble_eq_true_of_le h
theorem own_keep {st st' : St} {z : Nat} {e : TypeId} {v : AV} {es : List AV} {but : Nat → Prop} (h : Own st z e v es) (k : Keeps st st' but) (hb : ∀ j, ownerOf v j → ¬ but j) : Own st' z e v es := by
  refine ⟨by rw [k.ro]; exact Nat.le_trans h.1 k.h, h.2.1, ?_⟩
  rcases h.2.2 with h | h | ⟨j, hv, hg, hr⟩
  · exact .inl h
  · exact .inr (.inl h)
  · exact .inr (.inr ⟨j, hv, k.old _ _ (hb j ⟨_, _, hv⟩) hg, by rw [k.ro]; exact hr⟩)
theorem own_app {st : St} {z b : Nat} {e : TypeId} {v : AV} {es : List AV} (w : AV) (h : Own st z e v es) (hr : roomOk (es.length + 1) ⟨.other, z, b, [], false, false⟩ = true) :
    ∃ v' st', Own st' z e v' (es ++ [w]) ∧ Keeps st st' (ownerOf v) ∧ ∃ x, ∀ {β : Type} (K : Kv β), appS z b e v [w] st K = K v' st' x := by
  obtain ⟨v', st', x, e1, e2, e3, _⟩ := app_own (b := b) (new := [w]) h (by simp) hr
  exact ⟨v', st', e2, e3, x, fun K => appS_of e1 K⟩
theorem room_of {n z b : Nat} (hn : n ≤ 1000000000) (hb : b ≤ 1000) (hz : 1 ≤ z) : roomOk n ⟨.other, z, b, [], false, false⟩ = true := by
  have : n * b ≤ 1000000000 * 1000 := Nat.mul_le_mul hn hb
  simp only [roomOk, ble_of (show n * b ≤ 70368744177664 by omega), ble_of (show n ≤ 70368744177664 by omega), ble_of hz]; rfl
theorem own_freeze {st : St} {z : Nat} {e : TypeId} {v : AV} {es : List AV} (h : Own st z e v es) : ∃ x, IsSl z x es ∧ ∀ n, freeze st 0 (n + 1) v = .ok x := by
  rcases h with ⟨_, hl, ⟨rfl | rfl, rfl⟩ | rfl | ⟨k, rfl, _, _⟩⟩
  · exact ⟨.nils, IsSl.nils, fun _ => rfl⟩
  · exact ⟨.es, IsSl.emp, fun _ => rfl⟩
  · exact ⟨.sl z es .shut, IsSl.shut hl, fun _ => rfl⟩
  · exact ⟨.sl z es .wide, IsSl.wide hl, fun _ => rfl⟩
theorem frz_own2 {st : St} {z : Nat} {e : TypeId} {v u : AV} {es : List AV} (h : Own st z e v es) (hu : Fz 1 u) (hb : bare u = true) : ∃ x, IsSl z x es ∧ ∀ {β : Type} (K : AV → Option β), frzS st 0 (.tup [v, u]) K = K (.tup [x, u]) := by
  obtain ⟨x, hx, e1⟩ := own_freeze h
  refine ⟨x, hx, fun K => ?_⟩
  have e2 : freeze st 0 100 (.tup [v, u]) = .ok (.tup [x, u]) := by
    show (do pure (.tup (← allE (freeze st 0 99) [v, u])) : Res AV) = _
    have e3 : allE (freeze st 0 99) [v, u] = .ok [x, u] := by
      simp only [allE, e1 98, hu st 0 99 (by omega), ok_bind, pure_eq]
    rw [e3]; rfl
  have e3 : bare (.tup [x, u]) = true := by
    show (bare x && (bare u && true)) = true
    rw [hx.bare, hb]; rfl
  simp only [frzS, e2, e3, chk_true]
theorem byte_ne {c d : UInt8} (h : c ≠ d) : ¬ ((c.toNat : Nat) : Int) = (d.toNat : Int) := by
  intro k
  have : c.toNat = d.toNat := by omega
  exact h (UInt8.toNat_inj.1 this)
theorem getElem_of {s : List UInt8} {i : Nat} {c : UInt8} (hlt : i < s.length) (hg : s[i]? = some c) : s[i] = c := by
  have := List.getElem?_eq_getElem hlt
  rw [hg] at this; exact (Option.some.inj this).symm
end Go.VM
namespace Go.VM
open Go

theorem fitTs_of {agg : Bool} {β : Type} : ∀ {l : List AV} (_ : ∀ v ∈ l, ∀ (K : AV → Option β), fitT agg v K = K v) (K : List AV → Option β), fitTs agg l K = K l
  | [], _, _ => rfl
  | v :: l, h, K => by
    show fitT agg v (fun v' => fitTs agg l fun l' => K (v' :: l')) = _
    rw [h v (by simp), fitTs_of fun u hu => h u (List.mem_cons_of_mem _ hu)]
theorem sizesOk_of {z : Nat} {l : List AV} (h : ∀ v ∈ l, v.cells.length = z) : sizesOk z l = true := by
  refine List.all_eq_true.2 fun v hv => ?_
  rw [h v hv]; exact Nat.beq_refl z
theorem frz_tup {st : St} {base : Nat} {vs xs : List AV} (h : allE (freeze st base 99) vs = .ok xs) (hb : bares xs = true) {β : Type} (K : AV → Option β) : frzS st base (.tup vs) K = K (.tup xs) := by
  have e : freeze st base 100 (.tup vs) = .ok (.tup xs) := by
    show (do pure (.tup (← allE (freeze st base 99) vs)) : Res AV) = _
    rw [h]; rfl
  have e3 : bare (.tup xs) = true := hb
  simp only [frzS, e, e3, chk_true]
theorem allE_cons {g : AV → Res AV} {v x : AV} {vs xs : List AV} (h : g v = .ok x) (hs : allE g vs = .ok xs) : allE g (v :: vs) = .ok (x :: xs) := by
  simp only [allE, h, hs, ok_bind, pure_eq]
theorem allE_nil {g : AV → Res AV} : allE g [] = .ok [] := rfl

structure Els (z : Nat) (agg : Bool) (es : List AV) : Prop where
  one : ∀ v ∈ es, ones v.cells = true
  size : ∀ v ∈ es, v.cells.length = z
  fit : ∀ v ∈ es, ∀ c ∈ v.cells, Fz 1 c
  fits : ∀ v ∈ es, VM.fit v = .ok v
  shape : ∀ v ∈ es, agg = true → ∃ cs, v = .agg cs
  notagg : ∀ v ∈ es, agg = false → VM.one v = true
theorem flatEl_len {z : Nat} : ∀ {es : List AV}, (∀ v ∈ es, v.cells.length = z) → (flat es).length = es.length * z
  | [], _ => by simp [flat]
  | v :: l, h => by
    show (v.cells ++ flat l).length = _
    rw [List.length_append, h v (by simp), flatEl_len fun u hu => h u (List.mem_cons_of_mem _ hu), List.length_cons, Nat.add_mul]
    omega
theorem Els.set {z : Nat} {agg : Bool} {es : List AV} (he : Els z agg es) {k : Nat} {w : AV} (hw : Els z agg [w]) : Els z agg (es.set k w) := by
  have key : ∀ v ∈ es.set k w, v ∈ es ∨ v = w := fun v hv => List.mem_or_eq_of_mem_set hv
  have hm : w ∈ [w] := by simp
  exact ⟨fun v hv => (key v hv).elim (he.one v) (fun e => e ▸ hw.one w hm), fun v hv => (key v hv).elim (he.size v) (fun e => e ▸ hw.size w hm),
    fun v hv => (key v hv).elim (he.fit v) (fun e => e ▸ hw.fit w hm), fun v hv => (key v hv).elim (he.fits v) (fun e => e ▸ hw.fits w hm),
    fun v hv => (key v hv).elim (he.shape v) (fun e => e ▸ hw.shape w hm), fun v hv => (key v hv).elim (he.notagg v) (fun e => e ▸ hw.notagg w hm)⟩
theorem onesEl_app : ∀ {l m : List AV}, ones (l ++ m) = (ones l && ones m)
  | [], m => by simp [ones]
  | v :: l, m => by simp only [List.cons_append, ones, onesEl_app (l := l), Bool.and_assoc]
theorem onesEl_flat : ∀ {es : List AV}, (∀ v ∈ es, ones v.cells = true) → ones (flat es) = true
  | [], _ => rfl
  | v :: l, h => by
    show ones (v.cells ++ flat l) = true
    rw [onesEl_app, h v (by simp), onesEl_flat fun u hu => h u (List.mem_cons_of_mem _ hu)]; rfl
theorem memEl_flat : ∀ {es : List AV} {c : AV}, c ∈ flat es → ∃ v ∈ es, c ∈ v.cells
  | [], _, h => by simp [flat] at h
  | v :: l, c, h => by
    have h : c ∈ v.cells ++ flat l := h
    rcases List.mem_append.1 h with h | h
    · exact ⟨v, by simp, h⟩
    · obtain ⟨u, hu, hc⟩ := memEl_flat h
      exact ⟨u, List.mem_cons_of_mem _ hu, hc⟩
theorem groupEl_of {z : Nat} {agg : Bool} : ∀ {es : List AV}, Els z agg es → group z agg es.length (flat es) = .ok es
  | [], _ => rfl
  | v :: l, h => by
    have ih := groupEl_of (es := l) ⟨fun u hu => h.one u (List.mem_cons_of_mem _ hu), fun u hu => h.size u (List.mem_cons_of_mem _ hu), fun u hu => h.fit u (List.mem_cons_of_mem _ hu), fun u hu => h.fits u (List.mem_cons_of_mem _ hu), fun u hu => h.shape u (List.mem_cons_of_mem _ hu), fun u hu => h.notagg u (List.mem_cons_of_mem _ hu)⟩
    have hv : v ∈ v :: l := by simp
    have hs := h.size v hv
    have e1 : takeCells z agg (v.cells ++ flat l) = .ok v := by
      cases agg with
      | true =>
        obtain ⟨cs, rfl⟩ := h.shape v hv rfl
        have hs : cs.length = z := hs
        show (match z.ble (cs ++ flat l).length with | true => Except.ok (AV.agg ((cs ++ flat l).take z)) | false => _) = _
        rw [Nat.ble_eq_true_of_le (by rw [List.length_append]; omega), ← hs, List.take_left]
      | false =>
        have h1 := one_cells (h.notagg v hv rfl)
        rw [h1]; rfl
    have e2 : (v.cells ++ flat l).drop z = flat l := by rw [← hs, List.drop_left]
    show (do let u ← takeCells z agg (v.cells ++ flat l); let r ← group z agg l.length ((v.cells ++ flat l).drop z); pure (u :: r) : Res (List AV)) = _
    rw [e1, e2, ih]; rfl
theorem fitsEl_of : ∀ {es : List AV}, (∀ v ∈ es, VM.fit v = .ok v) → VM.fits es = .ok es
  | [], _ => rfl
  | v :: l, h => by
    simp only [VM.fits, h v (by simp), fitsEl_of fun u hu => h u (List.mem_cons_of_mem _ hu), ok_bind, pure_eq]
theorem freeze_ms {z : Nat} {es : List AV} (he : Els z (Nat.ble 2 z) es) {st : St} {id : Nat} {t : TypeId} (hg : st.get id = .ok (.cells t (flat es))) (hne : es ≠ []) (n : Nat) :
    freeze st 0 (n + 2) (.ms id 0 z es.length 0) = .ok (.sl z es .wide) := by
  have h0 : id.blt 0 = false := blt_false.2 (Nat.zero_le _)
  have hd : ((flat es).drop 0).take (es.length * z) = flat es := by rw [List.drop_zero, ← flatEl_len he.size, List.take_length]
  have e1 : allE (freeze st 0 (n + 1)) (flat es) = .ok (flat es) := allE_fz (d := 1) (by omega) fun c hc => by
    obtain ⟨v, hv, hc⟩ := memEl_flat hc
    exact he.fit v hv c hc
  have e2 := onesEl_flat he.one
  have e3 := groupEl_of he
  have e4 := fitsEl_of he.fits
  have h5 : es.length.beq 0 = false := by
    cases es with
    | nil => exact absurd rfl hne
    | cons v l => rfl
  show (match id.blt 0 with
    | true => Except.ok (AV.ms id 0 z es.length 0)
    | false => do
      match ← st.get id with
      | .cells _ cs => do
        let cs ← allE (freeze st 0 (n + 1)) ((cs.drop 0).take (es.length * z))
        match ones cs with
        | true => do
          let es' ← VM.fits (← group z (Nat.ble 2 z) es.length cs)
          match es.length.beq 0 with
          | true => .error "freeze: no array"
          | false => pure (.sl z es' .wide)
        | false => .error "freeze: cells"
      | _ => .error "freeze: what?") = _
  rw [h0, hg]
  simp only [ok_bind, hd, e1, e2, e3, e4, h5, pure_eq]
theorem msApp_of {agg : Bool} {i : TI} {e : TypeId} {es : List AV} (he : Els i.size agg es) (hne : es ≠ []) (hr : roomOk es.length i = true) {z : Nat} :
    msAppendP i e (.sl z [] .shut) es = .ok (.new (.cells (1000000 + e) (flat es)) fun k => .ms k 0 i.size es.length 0) := by
  cases es with
  | nil => exact absurd rfl hne
  | cons v l =>
    have h1 := fitsEl_of he.fits
    have h2 : ((v :: l).all fun v => v.cells.length.beq i.size) = true := sizesOk_of he.size
    show (do let new ← VM.fits (v :: l); _) = _
    rw [h1, ok_bind, h2, hr]
    rfl
theorem var_put {O : Orc} {st : St} {id : Nat} {t : TypeId} {z : Nat} {old cs : List AV} (v : AV) (hg : st.get id = .ok (.cells t old)) (hl : old.length = z) (hc : cs.length = z) (hro : st.ro ≤ id) :
    ∃ st', st'.get id = .ok (.cells t cs) ∧ Keeps st st' (· = id) ∧ st'.h = st.h ∧ ∃ fx, ∀ {β : Type} (K : Kv β), storeS O z (.mp id 0) v cs st K = K undef st' fx := by
  refine ⟨st.put id (.cells t cs), St.get_put_same (St.get_ok.1 hg).1, Keeps.put rfl, rfl, ⟨[id], .wrote id (.cells t (splice old 0 cs))⟩, fun K => ?_⟩
  rw [storeS_at hg hc (by omega) hro, splice_all (by omega)]
def Rf (d : Nat) (v : AV) : Prop := ∀ f, d ≤ f → sameAV f v v = true
theorem Rf.mono {d e : Nat} {v : AV} (h : Rf d v) (hd : d ≤ e) : Rf e v := fun f hf => h f (Nat.le_trans hd hf)
theorem var_put2 {O : Orc} {st : St} {id : Nat} {t : TypeId} {z : Nat} {old cs : List AV} (v : AV) (hg : st.get id = .ok (.cells t old)) (hl : old.length = z) (hc : cs.length = z) (hro : st.ro ≤ id) :
    ∃ st' o, st'.get id = .ok (.cells t cs) ∧ Keeps st st' (· = id) ∧ st'.h = st.h ∧ ∀ {β : Type} (K : Kv β), storeS O z (.mp id 0) v cs st K = K undef st' ⟨[id], .wrote id o⟩ := by
  refine ⟨st.put id (.cells t cs), .cells t (splice old 0 cs), St.get_put_same (St.get_ok.1 hg).1, Keeps.put rfl, rfl, fun K => ?_⟩
  rw [storeS_at hg hc (by omega) hro, splice_all (by omega)]
theorem apart_wr {a i : Nat} {o : Obj} (h : a ≠ i) : apart ⟨[a], .kept⟩ ⟨[i], .wrote i o⟩ = true := by
  show (![a].contains i) = true
  simp [h.symm]
theorem Keeps.of_ne {st st' : St} {p : Nat} (k : Keeps st st' (· = p)) {j : Nat} {o : Obj} (hj : j ≠ p) (h : st.get j = .ok o) : st'.get j = .ok o := k.old j o hj h
theorem Keeps.weak {st st' : St} {p q : Nat → Prop} (k : Keeps st st' p) (h : ∀ j, p j → q j) : Keeps st st' q := ⟨k.ro, k.h, fun j o hj => k.old j o fun hp => hj (h j hp)⟩
theorem Keeps.fresh {a b c : St} {p : Nat → Prop} {i : Nat} (h : Keeps a b p) (k : Keeps b c (· = i)) (hi : a.h ≤ i) : Keeps a c p :=
  ⟨k.ro.trans h.ro, Nat.le_trans h.h k.h, fun j o hj hg => k.old j o (fun e => by
    have := (St.get_ok.1 hg).1
    omega) (h.old j o hj hg)⟩
end Go.VM
namespace Go.VM
open Go

def Goes {β : Type} (e : Option β) (Q : β → Prop) : Prop := ∃ b, e = some b ∧ Q b
section
variable {β : Type} {Q : β → Prop} {E : Env} {st : St}
theorem Goes.step {e e' : Option β} (h : e = e') (g : Goes e' Q) : Goes e Q := h ▸ g
theorem Goes.some {b : β} (h : Q b) : Goes (.some b) Q := ⟨b, rfl, h⟩
theorem Goes.mono {e : Option β} {Q' : β → Prop} (h : Goes e Q) (k : ∀ b, Q b → Q' b) : Goes e Q' := by
  obtain ⟨b, e, h⟩ := h
  exact ⟨b, e, k b h⟩
theorem Goes.bind {α : Type} {e : Option α} {R : α → Prop} {K : α → Option β} (h : Goes e R) (g : ∀ a, R a → Goes (K a) Q) : Goes (bindO e K) Q := by
  obtain ⟨a, e, h⟩ := h
  rw [e]
  exact g a h
theorem Goes.wide {F : FuncId} {args : List AV} {Q : AV × St → Prop} (h : Goes (wideS E F args st) Q) : Goes ((orc E).wide F args st) Q := by
  obtain ⟨b, e, h⟩ := h
  exact ⟨b, wide_of e, h⟩
theorem Goes.bare {F : FuncId} {args : List AV} {Q : AV → Prop} (hm : (E.memo F, (E.rule F).isSome) = ([], false)) (h : Goes (bareS E F args) Q) : Goes ((orc E).bare F args) Q := by
  obtain ⟨b, e, h⟩ := h
  exact ⟨b, bare_of hm e, h⟩
theorem Goes.one {v : AV} (h : VM.one v = true) {e : Option β} (g : Goes e Q) : Goes (asOne v e) Q := Goes.step (asOne_of h e) g
theorem Goes.loop {σ : Type} {F : σ → Option (Sum σ β)} {I : Nat → σ → Prop} (h : ∀ n s, I n s → Goes (F s) fun r => match r with
    | .inl s' => ∃ m, m < n ∧ I m s'
    | .inr b => Q b) : ∀ n s, I n s → Goes (loopO F s) Q := by
  intro n
  induction n using Nat.strongRecOn with
  | _ n ih =>
    intro s hs
    obtain ⟨r, e, hr⟩ := h n s hs
    cases r with
    | inl s' =>
      obtain ⟨m, hm, hi⟩ := hr
      rw [loopO_inl e]
      exact ih m hm s' hi
    | inr b => exact ⟨b, loopO_inr e, hr⟩
abbrev Vrs := List (Nat × TypeId × List AV)
structure Vw (st : St) (l : Vrs) : Prop where
  v : ∀ q ∈ l, st.get q.1 = .ok (.cells q.2.1 q.2.2) ∧ st.ro ≤ q.1
  nd : (l.map (·.1)).Nodup
  ro : st.ro ≤ st.h
variable {l l1 l2 : Vrs}
theorem Vw.get (w : Vw st l) {a : Nat} {t : TypeId} {cs : List AV} (h : (a, t, cs) ∈ l) : st.get a = .ok (.cells t cs) := (w.v _ h).1
theorem Vw.sub {l' : Vrs} (w : Vw st l) (h : List.Sublist l' l) : Vw st l' := ⟨fun q hq => w.v q (h.subset hq), (h.map _).nodup w.nd, w.ro⟩
theorem Vw.alloc (w : Vw st l) (t : TypeId) (cs : List AV) : Vw (st.add (.cells t cs)) ((st.h, t, cs) :: l) := by
  refine ⟨fun q hq => ?_, ?_, Nat.le_succ_of_le w.ro⟩
  · rcases List.mem_cons.1 hq with rfl | hq
    · exact ⟨St.get_add_new, w.ro⟩
    · exact ⟨St.get_add_old (w.v q hq).1, (w.v q hq).2⟩
  · rw [List.map_cons, List.nodup_cons]
    refine ⟨fun hm => ?_, w.nd⟩
    obtain ⟨q, hq, e⟩ := List.mem_map.1 hm
    have h1 := (St.get_ok.1 (w.v q hq).1).1
    simp only at e
    omega
theorem Goes.eq {e : Option β} {b : β} (h : Goes e (· = b)) : e = .some b := by
  obtain ⟨c, e, rfl⟩ := h
  exact e
end
end Go.VM
namespace Go.Lex
open Go.VM

def wh (p : UInt8 → Bool) (s : List UInt8) : Nat := (s.takeWhile p).length
def isBlank (b : UInt8) : Bool := b == 32 || b == 9 || b == 10 || b == 13
def isLow (b : UInt8) : Bool := (decide (97 ≤ b.toNat) && decide (b.toNat ≤ 122)) || b == 95
def isDig (b : UInt8) : Bool := decide (48 ≤ b.toNat) && decide (b.toNat ≤ 57)
def isBeh (b : UInt8) : Bool := isLow b || isDig b || (decide (65 ≤ b.toNat) && decide (b.toNat ≤ 90)) || b == 39
def rem : List UInt8 → Nat → Option Nat
  | [], _ => none
  | [_], _ => none
  | a :: b :: l, d =>
    if a = 40 ∧ b = 42 then (rem l (d + 1)).map (· + 2)
    else if a = 42 ∧ b = 41 then (if d = 1 then some 2 else (rem l (d - 1)).map (· + 2))
    else (rem (b :: l) d).map (· + 1)
def words : List (List UInt8) := [[108, 101, 116], [114, 101, 99], [105, 110], [102, 117, 110], [105, 102], [116, 104, 101, 110], [101, 108, 115, 101], [109, 97, 116, 99, 104], [119, 105, 116, 104], [116, 114, 117, 101], [102, 97, 108, 115, 101], [109, 111, 100]]
def nameK (w : List UInt8) : Nat := if w = [95] then 8 else if words.contains w then 3 else 4
def stepV (a : Nat) (c : UInt8) : Nat := a * 10 + (c.toNat - 48)
def numV (acc : Nat) (l : List UInt8) : Nat := l.foldl stepV acc
theorem numV_nil (a : Nat) : numV a [] = a := id rfl
theorem numV_cons (a : Nat) (c : UInt8) (l : List UInt8) : numV a (c :: l) = numV (stepV a c) l := id rfl
def isSgn (c : UInt8) : Bool := c == 43 || c == 45
def sgn : List UInt8 → Nat
  | c :: _ => if isSgn c then 1 else 0
  | [] => 0
def expo (s : List UInt8) : Nat × Int :=
  match s with
  | [] => (0, 0)
  | e :: l =>
    if e = 101 ∨ e = 69 then
      let d := wh isDig (l.drop (sgn l))
      if d = 0 then (0, 0)
      else
        let x : Int := ((min (numV 0 ((l.drop (sgn l)).take d)) 1000000 : Nat) : Int)
        (1 + sgn l + d, if l.head? = some 45 then -x else x)
    else (0, 0)
def number (s : List UInt8) : Nat × Nat :=
  let n := wh isDig s
  if (s.drop n).head? = some 46 then
    let k := wh isDig (s.drop (n + 1))
    let x := expo (s.drop (n + 1 + k))
    (if n + k > 15 ∨ x.2 - (k : Int) < -22 ∨ x.2 - (k : Int) > 22 then 9 else 6, n + 1 + k + x.1)
  else (5, n)
def badT : List UInt8 → Nat
  | [] => 0
  | c :: l => if c = 10 then 0 else if c = 34 then 1 else badT l + 1
def isEsc (c : UInt8) : Bool := c == 110 || c == 116 || c == 92 || c == 34
def txt : List UInt8 → Nat × Nat
  | [] => (9, 0)
  | [c] => if c = 10 then (9, 0) else if c = 34 then (7, 1) else (9, 1)
  | c :: d :: l =>
    if c = 10 then (9, 0) else if c = 34 then (7, 1)
    else if c = 92 then (if isEsc d then ((txt l).1, (txt l).2 + 2) else (9, badT (d :: l) + 1))
    else ((txt (d :: l)).1, (txt (d :: l)).2 + 1)
def twos : List (List UInt8) := [[45, 62], [58, 58], [60, 62], [60, 61], [62, 61], [43, 46], [45, 46], [42, 46], [47, 46], [38, 38], [124, 124]]
def ones1 : List UInt8 := [40, 41, 91, 93, 44, 59, 124, 61, 60, 62, 43, 45, 42, 47, 94, 64]
def isOne (c : UInt8) : Bool := ones1.contains c
def cut (s : List UInt8) : Nat × Nat :=
  match s with
  | [] => (9, 0)
  | c :: l =>
    if isBlank c then (1, wh isBlank s)
    else if s.take 2 = [40, 42] then (match rem (s.drop 2) 1 with | some n => (2, n + 2) | none => (9, s.length))
    else if isLow c then (nameK (s.takeWhile isBeh), wh isBeh s)
    else if isDig c then number s
    else if c = 34 then ((txt l).1, (txt l).2 + 1)
    else if twos.contains (s.take 2) then (8, 2)
    else if isOne c then (8, 1)
    else (9, if szL s = 0 then 1 else szL s)
def toks : Nat → List UInt8 → List (Nat × List UInt8)
  | 0, _ => []
  | n + 1, s => match s with
    | [] => []
    | _ :: _ => ((cut s).1, s.take (cut s).2) :: toks n (s.drop (cut s).2)
def tokens (s : List UInt8) : List (Nat × List UInt8) := toks s.length s

theorem wh_le (p : UInt8 → Bool) (s : List UInt8) : wh p s ≤ s.length := (List.takeWhile_sublist p).length_le
theorem wh_take (p : UInt8 → Bool) (s : List UInt8) : s.take (wh p s) = s.takeWhile p := by
  unfold wh
  induction s with
  | nil => rfl
  | cons c l ih =>
    rw [List.takeWhile_cons]
    split
    · simp [ih]
    · simp
theorem wh_drop (p : UInt8 → Bool) (s : List UInt8) : s.drop (wh p s) = s.dropWhile p := by
  unfold wh
  induction s with
  | nil => rfl
  | cons c l ih =>
    rw [List.takeWhile_cons, List.dropWhile_cons]
    split
    · simp [ih]
    · simp
theorem wh_len (p : UInt8 → Bool) (s : List UInt8) : s.length = wh p s + (s.dropWhile p).length := by
  rw [← wh_drop, List.length_drop]
  have := wh_le p s
  omega
theorem wh_cons (p : UInt8 → Bool) (c : UInt8) (l : List UInt8) : wh p (c :: l) = if p c = true then wh p l + 1 else 0 := by
  unfold wh
  rw [List.takeWhile_cons]
  split <;> simp
theorem rem_le : ∀ (s : List UInt8) (d n : Nat), rem s d = some n → 2 ≤ n ∧ n ≤ s.length
  | [], _, _, h => by simp [rem] at h
  | [_], _, _, h => by simp [rem] at h
  | a :: b :: l, d, n, h => by
    simp only [rem] at h
    split at h
    · obtain ⟨m, hm, rfl⟩ := Option.map_eq_some_iff.1 h
      have := rem_le l (d + 1) m hm
      simp; omega
    · split at h
      · split at h
        · cases h; simp
        · obtain ⟨m, hm, rfl⟩ := Option.map_eq_some_iff.1 h
          have := rem_le l (d - 1) m hm
          simp; omega
      · obtain ⟨m, hm, rfl⟩ := Option.map_eq_some_iff.1 h
        have := rem_le (b :: l) d m hm
        simp at this ⊢; omega
theorem badT_le : ∀ (s : List UInt8), badT s ≤ s.length
  | [] => Nat.le_refl _
  | c :: l => by
    have := badT_le l
    simp only [badT]
    split
    · omega
    · split
      · simp
      · simp; exact this
theorem txt_le : ∀ (s : List UInt8), (txt s).2 ≤ s.length
  | [] => Nat.le_refl _
  | [c] => by
    simp only [txt]
    split
    · simp
    · split <;> simp
  | c :: d :: l => by
    have h1 := txt_le l
    have h2 := txt_le (d :: l)
    have h3 := badT_le (d :: l)
    simp only [txt, List.length_cons] at *
    split
    · simp
    · split
      · simp
      · split
        · split
          · simp; omega
          · simp; omega
        · simp; omega
theorem sgn_le (l : List UInt8) : sgn l ≤ l.length := by
  cases l with
  | nil => exact Nat.le_refl _
  | cons c l => simp only [sgn]; split <;> simp
theorem expo_le (s : List UInt8) : (expo s).1 ≤ s.length := by
  unfold expo
  cases s with
  | nil => simp
  | cons e l =>
    dsimp only
    split
    · have hg := sgn_le l
      have hd := wh_le isDig (l.drop (sgn l))
      rw [List.length_drop] at hd
      split
      · simp
      · simp only [List.length_cons]; omega
    · simp
theorem number_le (s : List UInt8) (h : 1 ≤ wh isDig s) : 1 ≤ (number s).2 ∧ (number s).2 ≤ s.length := by
  unfold number
  have h1 := wh_le isDig s
  dsimp only
  split
  · rename_i hd
    have hlt : wh isDig s < s.length := by
      rcases Nat.lt_or_ge (wh isDig s) s.length with q | q
      · exact q
      · rw [List.drop_of_length_le q] at hd; cases hd
    have h2 := wh_le isDig (s.drop (wh isDig s + 1))
    rw [List.length_drop] at h2
    have h3 := expo_le (s.drop (wh isDig s + 1 + wh isDig (s.drop (wh isDig s + 1))))
    rw [List.length_drop] at h3
    dsimp only
    omega
  · exact ⟨h, h1⟩
theorem cut_le {s : List UInt8} (h : s ≠ []) : 1 ≤ (cut s).2 ∧ (cut s).2 ≤ s.length := by
  cases s with
  | nil => exact absurd rfl h
  | cons c l =>
    unfold cut
    dsimp only
    split
    · rename_i hb
      exact ⟨by rw [wh_cons, if_pos hb]; omega, wh_le _ _⟩
    split
    · rename_i h2
      have hl : 2 ≤ (c :: l).length := by
        have := congrArg List.length h2
        rw [List.length_take] at this
        simp at this
        simp; omega
      cases hr : rem (List.drop 2 (c :: l)) 1 with
      | some n =>
        have := rem_le _ _ _ hr
        rw [List.length_drop] at this
        dsimp only; omega
      | none => dsimp only; omega
    split
    · rename_i hb
      have hb' : isBeh c = true := by unfold isBeh; rw [hb]; rfl
      exact ⟨by rw [wh_cons, if_pos hb']; omega, wh_le _ _⟩
    split
    · rename_i hb
      exact number_le _ (by rw [wh_cons, if_pos hb]; omega)
    split
    · have := txt_le l
      simp; omega
    split
    · rename_i h2
      have hl : 2 ≤ (c :: l).length := by
        rcases Nat.lt_or_ge (c :: l).length 2 with q | q
        · exfalso
          have : l = [] := by
            cases l with
            | nil => rfl
            | cons d l => simp at q; omega
          subst this
          simp [twos] at h2
        · exact q
      dsimp only; omega
    split
    · simp
    · have := szL_le (l := c :: l) (by simp)
      dsimp only
      split
      · simp
      · omega
theorem toks_fuel : ∀ (n m : Nat) (s : List UInt8), s.length ≤ n → s.length ≤ m → toks n s = toks m s
  | 0, 0, _, _, _ => rfl
  | 0, m + 1, s, h, _ => by
    have : s = [] := List.eq_nil_of_length_eq_zero (by omega)
    subst this; rfl
  | n + 1, 0, s, _, h => by
    have : s = [] := List.eq_nil_of_length_eq_zero (by omega)
    subst this; rfl
  | n + 1, m + 1, [], _, _ => rfl
  | n + 1, m + 1, c :: l, hn, hm => by
    have hc := cut_le (s := c :: l) (by simp)
    simp only [toks]
    rw [toks_fuel n m ((c :: l).drop (cut (c :: l)).2) (by rw [List.length_drop]; omega) (by rw [List.length_drop]; omega)]
theorem tokens_cons {s : List UInt8} (h : s ≠ []) : tokens s = ((cut s).1, s.take (cut s).2) :: tokens (s.drop (cut s).2) := by
  cases s with
  | nil => exact absurd rfl h
  | cons c l =>
    have hc := cut_le (s := c :: l) (by simp)
    show toks (l.length + 1) (c :: l) = _
    simp only [toks]
    congr 1
    exact toks_fuel _ _ _ (by rw [List.length_drop]; simp at hc ⊢; omega) (Nat.le_refl _)
theorem tokens_nil : tokens [] = [] := rfl
end Go.Lex
namespace Go.Parse
open Go.VM Go.Lex

abbrev Tok := Nat × List UInt8
inductive T where
  | mk (k tk : Nat) (tx : List UInt8) (kids : List T)
  deriving Inhabited
def T.kids : T → List T | .mk _ _ _ l => l
def T.kind : T → Nat | .mk k _ _ _ => k

def trivB (t : Tok) : Bool := t.1 == 1 || t.1 == 2
def nx (r : List Tok) : Tok :=
  match r.dropWhile trivB with
  | [] => (0, [])
  | t :: _ => t
def leaf (t : Tok) (ks : List T) : T := .mk 1 t.1 t.2 ks
def leaf0 (t : Tok) : T := leaf t []
def takeT (r : List Tok) : T := leaf (nx r) ((r.takeWhile trivB).map leaf0)
def takeR (r : List Tok) : List Tok := (r.dropWhile trivB).drop 1
def isS (s : List UInt8) (r : List Tok) : Bool := ((nx r).1 == 3 || (nx r).1 == 8) && (nx r).2 == s
def isAny (l : List (List UInt8)) (r : List Tok) : Bool := ((nx r).1 == 3 || (nx r).1 == 8) && l.any fun s => s == (nx r).2
def missing (s : List UInt8) : T := .mk 2 0 s []
def needT (s : List UInt8) (r : List Tok) : T := if isS s r then takeT r else missing s
def needR (s : List UInt8) (r : List Tok) : List Tok := if isS s r then takeR r else r
abbrev node (k : Nat) (l : List T) : T := .mk k 0 [] l

def sLet : List UInt8 := [108, 101, 116]
def sRec : List UInt8 := [114, 101, 99]
def sIn : List UInt8 := [105, 110]
def sFun : List UInt8 := [102, 117, 110]
def sIf : List UInt8 := [105, 102]
def sThen : List UInt8 := [116, 104, 101, 110]
def sElse : List UInt8 := [101, 108, 115, 101]
def sMatch : List UInt8 := [109, 97, 116, 99, 104]
def sWith : List UInt8 := [119, 105, 116, 104]
def sTrue : List UInt8 := [116, 114, 117, 101]
def sFalse : List UInt8 := [102, 97, 108, 115, 101]
def sExpr : List UInt8 := [101, 120, 112, 114]
def sPattern : List UInt8 := [112, 97, 116, 116, 101, 114, 110]
def sEq : List UInt8 := [61]
def sArrow : List UInt8 := [45, 62]
def sBar : List UInt8 := [124]
def sCons : List UInt8 := [58, 58]
def sOpen : List UInt8 := [40]
def sClose : List UInt8 := [41]
def sOpenL : List UInt8 := [91]
def sCloseL : List UInt8 := [93]
def sComma : List UInt8 := [44]
def sSemi : List UInt8 := [59]
def sAny : List UInt8 := [95]
def opsOf : Nat → List (List UInt8)
  | 0 => [[124, 124]]
  | 1 => [[38, 38]]
  | 2 => [[61], [60, 62], [60], [60, 61], [62], [62, 61]]
  | 3 => [[64], [94]]
  | 4 => [[58, 58]]
  | 5 => [[43], [45], [43, 46], [45, 46]]
  | _ => [[42], [47], [42, 46], [47, 46], [109, 111, 100]]
def leftOf (k : Nat) : Bool := k == 2 || k == 5 || k == 6
def begins (pat : Bool) (r : List Tok) : Bool :=
  (nx r).1 == 4 || (nx r).1 == 5 || (nx r).1 == 7 || (nx r).1 == 9 || (nx r).1 == (if pat then 5 else 6) || isAny [sTrue, sFalse, sOpen, sOpenL, if pat then sAny else sOpen] r

inductive Job where
  | expr
  | whole
  | level (k : Nat)
  | ops (k : Nat) (acc : T)
  | neg
  | args (acc : T)
  | atom (pat : Bool)
  | closed (list pat : Bool)
  | items (list pat : Bool)
  | pattern
  | binding
  | params
  | arm
  | arms
def deepT (what : List UInt8) (r : List Tok) : T := if (nx r).1 = 0 then missing what else node 3 [takeT r]
def deepR (r : List Tok) : List Tok := if (nx r).1 = 0 then r else takeR r
def kindOf : Bool → Bool → Nat
  | false, false => 14
  | true, false => 15
  | false, true => 17
  | true, true => 18
def betw (list : Bool) : List UInt8 := if list then sSemi else sComma
def endOf (list : Bool) : List UInt8 := if list then sCloseL else sClose
abbrev R := Option (List T × List Tok)
def P : Nat → Job → Nat → List Tok → R
  | 0, _, _, _ => none
  | n + 1, .expr, d, r => if d = 64 then some ([deepT sExpr r], deepR r) else P n .whole (d + 1) r
  | n + 1, .whole, d, r =>
    if isS sLet r then do
      let (bs, r2) ← P n .binding d (takeR r)
      let (es, r3) ← P n .expr d (needR sIn r2)
      some ([node 6 (takeT r :: bs ++ [needT sIn r2] ++ es)], r3)
    else if isS sFun r then do
      let (a, r1) ← P n (.atom true) d (takeR r)
      let (ps, r2) ← P n .params d r1
      let (es, r3) ← P n .expr d (needR sArrow r2)
      some ([node 7 (takeT r :: a ++ ps ++ [needT sArrow r2] ++ es)], r3)
    else if isS sIf r then do
      let (a, r1) ← P n .expr d (takeR r)
      let (b, r2) ← P n .expr d (needR sThen r1)
      let (c, r3) ← P n .expr d (needR sElse r2)
      some ([node 8 (takeT r :: a ++ [needT sThen r1] ++ b ++ [needT sElse r2] ++ c)], r3)
    else if isS sMatch r then do
      let (a, r1) ← P n .expr d (takeR r)
      let r2 := needR sWith r1
      let bar := if isS sBar r2 then [takeT r2] else []
      let (b, r3) ← P n .arm d (if isS sBar r2 then takeR r2 else r2)
      let (cs, r4) ← P n .arms d r3
      some ([node 9 (takeT r :: a ++ [needT sWith r1] ++ bar ++ b ++ cs)], r4)
    else P n (.level 0) d r
  | n + 1, .level k, d, r =>
    if k = 7 then P n .neg d r
    else do
      let (a, r1) ← P n (.level (k + 1)) d r
      match a with
      | [t] => P n (.ops k t) d r1
      | _ => none
  | n + 1, .ops k acc, d, r =>
    if isAny (opsOf k) r then do
      let (b, r1) ← P n (.level (if leftOf k then k + 1 else k)) d (takeR r)
      P n (.ops k (node 11 (acc :: takeT r :: b))) d r1
    else some ([acc], r)
  | n + 1, .neg, d, r =>
    if isAny [[45], [45, 46]] r then
      if d = 64 then some ([node 12 [takeT r, deepT sExpr (takeR r)]], deepR (takeR r))
      else do
        let (a, r1) ← P n .neg (d + 1) (takeR r)
        some ([node 12 (takeT r :: a)], r1)
    else do
      let (a, r1) ← P n (.atom false) d r
      match a with
      | [t] => P n (.args t) d r1
      | _ => none
  | n + 1, .args acc, d, r =>
    if begins false r then do
      let (b, r1) ← P n (.atom false) d r
      P n (.args (node 13 (acc :: b))) d r1
    else some ([acc], r)
  | n + 1, .atom pat, d, r =>
    if begins pat r then
      if (nx r).1 = 9 then some ([node 3 [takeT r]], takeR r)
      else if isS sOpen r then P n (.closed false pat) d r
      else if isS sOpenL r then P n (.closed true pat) d r
      else some ([takeT r], takeR r)
    else some ([missing (if pat then sPattern else sExpr)], r)
  | n + 1, .closed list pat, d, r =>
    let r1 := takeR r
    if isS (endOf list) r1 then some ([node (kindOf list pat) [takeT r, takeT r1]], takeR r1)
    else do
      let (a, r2) ← P n (if pat then .pattern else .expr) d r1
      let (bs, r3) ← P n (.items list pat) d r2
      some ([node (kindOf list pat) (takeT r :: a ++ bs ++ [needT (endOf list) r3])], needR (endOf list) r3)
  | n + 1, .items list pat, d, r =>
    if isS (betw list) r then do
      let (a, r1) ← P n (if pat then .pattern else .expr) d (takeR r)
      let (bs, r2) ← P n (.items list pat) d r1
      some (takeT r :: a ++ bs, r2)
    else some ([], r)
  | n + 1, .pattern, d, r =>
    if d = 64 then some ([deepT sPattern r], deepR r)
    else do
      let (a, r1) ← P n (.atom true) (d + 1) r
      if isS sCons r1 then do
        let (b, r2) ← P n .pattern (d + 1) (takeR r1)
        some ([node 16 (a ++ takeT r1 :: b)], r2)
      else some (a, r1)
  | n + 1, .binding, d, r => do
    let rc := if isS sRec r then [takeT r] else []
    let r0 := if isS sRec r then takeR r else r
    let (xs, r1) ← if (nx r0).1 = 4 then (do
        let (ps, r1) ← P n .params d (takeR r0)
        some (takeT r0 :: ps, r1))
      else P n (.atom true) d r0
    let (es, r2) ← P n .expr d (needR sEq r1)
    some (rc ++ xs ++ [needT sEq r1] ++ es, r2)
  | n + 1, .params, d, r =>
    if begins true r then do
      let (a, r1) ← P n (.atom true) d r
      let (bs, r2) ← P n .params d r1
      some (a ++ bs, r2)
    else some ([], r)
  | n + 1, .arm, d, r => do
    let (a, r1) ← P n .pattern d r
    let (es, r2) ← P n .expr d (needR sArrow r1)
    some ([node 10 (a ++ [needT sArrow r1] ++ es)], r2)
  | n + 1, .arms, d, r =>
    if isS sBar r then do
      let (a, r1) ← P n .arm d (takeR r)
      let (bs, r2) ← P n .arms d r1
      some (takeT r :: a ++ bs, r2)
    else some ([], r)
def skip : Nat → List Tok → List T × List Tok
  | 0, r => ([], r)
  | n + 1, r => if (nx r).1 ≠ 0 ∧ isS sLet r = false then ((takeT r :: (skip n (takeR r)).1), (skip n (takeR r)).2) else ([], r)
def fuel (r : List Tok) : Nat := 30 * (r.length + 2)
end Go.Parse
namespace Go.Parse
open Go.VM Go.Lex

def single : Job → Bool
  | .items _ _ => false
  | .binding => false
  | .params => false
  | .arms => false
  | _ => true
def firm : Job → List Tok → Prop
  | .atom pat, r => begins pat r = true
  | .closed _ _, r => (nx r).1 ≠ 0
  | _, _ => False
def at' : Job → List Tok → Prop
  | .closed _ _, r => (nx r).1 ≠ 0
  | _, _ => True
structure Fine (job : Job) (r : List Tok) (x : R) : Prop where
  some : ∃ l r', x = some (l, r') ∧ r'.length ≤ r.length ∧ (single job = true → ∃ t, l = [t]) ∧ (firm job r → r'.length < r.length)
end Go.Parse
namespace Go.Lex
open Go.VM

def Bd (s : List UInt8) (n : Nat) : Prop := n = 0 ∨ (s.getD n 0).toNat < 128 ∨ (s.getD (n - 1) 0).toNat < 128
end Go.Lex
namespace Go.Lex
open Go.VM

theorem badT_line (r : List UInt8) : ∀ s : List UInt8, badT (s ++ 10 :: r) = badT s
  | [] => by
    show badT (10 :: r) = 0
    simp [badT]
  | c :: l => by
    show badT (c :: (l ++ 10 :: r)) = _
    simp only [badT, badT_line r l]
theorem txt_one {c : UInt8} (h1 : c ≠ 10) (h2 : c ≠ 34) : txt [c] = (9, 1) := by simp only [txt, if_neg h1, if_neg h2]
theorem txt_line (r : List UInt8) : ∀ s : List UInt8, txt (s ++ 10 :: r) = txt s
  | [] => by
    show txt (10 :: r) = (9, 0)
    cases r with
    | nil => rfl
    | cons d r => simp only [txt, if_true]
  | [c] => by
    show txt (c :: 10 :: r) = _
    by_cases h1 : c = 10
    · subst h1; simp only [txt, if_true]
    by_cases h2 : c = 34
    · simp only [txt, if_neg h1, if_pos h2]
    rw [txt_one h1 h2]
    by_cases h3 : c = 92
    · simp only [txt, if_neg h1, if_neg h2, if_pos h3, show isEsc 10 = false from rfl, Bool.false_eq_true, if_false]
      simp [badT]
    · have ih := txt_line r []
      have ih : txt (10 :: r) = (9, 0) := ih
      simp only [txt, if_neg h1, if_neg h2, if_neg h3, ih]
  | c :: d :: l => by
    have ih1 := txt_line r l
    have ih2 : txt (d :: (l ++ 10 :: r)) = txt (d :: l) := txt_line r (d :: l)
    have ih3 : badT (d :: (l ++ 10 :: r)) = badT (d :: l) := badT_line r (d :: l)
    show txt (c :: d :: (l ++ 10 :: r)) = _
    simp only [txt, ih1, ih2, ih3]
end Go.Lex
namespace Go.Lex
open Go.VM

def behind (s : List UInt8) : Nat → List UInt8
  | 0 => s
  | n + 1 => (behind s n).drop (cut (behind s n)).2
end Go.Lex
namespace Go.Lex
open Go.VM

end Go.Lex
namespace Go.Lex
open Go.VM

def keeps : Nat → List (Nat × List UInt8) → Nat
  | _, [] => 0
  | r, p :: l => if p.2.length + 2 < r then keeps (r - p.2.length) l + 1 else 0
end Go.Lex
set_option linter.unusedSimpArgs false
namespace Go.Parse
open Go.VM Go.Lex

theorem bind_some {α β : Type} {x : Option α} {f : α → Option β} {b : β} (h : (x >>= f) = some b) : ∃ a, x = some a ∧ f a = some b := by
  cases x with
  | none => cases h
  | some a => exact ⟨a, rfl, h⟩
mutual
def goodT : T → Bool
  | .mk k tk _ l => k != 2 && k != 3 && (k != 1 || tk != 9) && goodL l
def goodL : List T → Bool
  | [] => true
  | t :: l => goodT t && goodL l
end
end Go.Parse
set_option linter.unusedSimpArgs false
namespace Go.Green
open Go.VM Go.Lex Go.Parse

mutual
def textG : T → List UInt8
  | .mk k _ tx l => if k = 2 then [] else textGL l ++ (if k = 1 then tx else [])
def textGL : List T → List UInt8
  | [] => []
  | t :: l => textG t ++ textGL l
end
mutual
def toksG : T → List Tok
  | .mk k tk tx l => if k = 2 then [] else toksGL l ++ (if k = 1 ∧ ¬ (tk = 0 ∧ tx = []) then [(tk, tx)] else [])
def toksGL : List T → List Tok
  | [] => []
  | t :: l => toksG t ++ toksGL l
end
def bytesT (l : List Tok) : List UInt8 := (l.map (·.2)).flatten
theorem bytesT_app (l m : List Tok) : bytesT (l ++ m) = bytesT l ++ bytesT m := by simp [bytesT]
mutual
theorem text_toks : ∀ t : T, textG t = bytesT (toksG t)
  | .mk k tk tx l => by
    simp only [textG, toksG]
    by_cases h2 : k = 2
    · rw [if_pos h2, if_pos h2]; rfl
    · rw [if_neg h2, if_neg h2, bytesT_app, text_toksL l]
      congr 1
      by_cases h1 : k = 1
      · by_cases h : tk = 0 ∧ tx = []
        · rw [if_pos h1, if_neg (by simp [h]), h.2]; rfl
        · rw [if_pos h1, if_pos ⟨h1, h⟩]; simp [bytesT]
      · rw [if_neg h1, if_neg (fun h => h1 h.1)]; rfl
theorem text_toksL : ∀ l : List T, textGL l = bytesT (toksGL l)
  | [] => rfl
  | t :: l => by simp only [textGL, toksGL, bytesT_app, text_toks t, text_toksL l]
end
mutual
def lv (path : List Nat) : T → List (List Nat × T)
  | .mk k tk tx l => if k = 1 then [(path, .mk k tk tx l)] else if k = 2 then [] else lvL path 0 l
def lvL (path : List Nat) (i : Nat) : List T → List (List Nat × T)
  | [] => []
  | t :: l => lv (path ++ [i]) t ++ lvL path (i + 1) l
end
def toksV (l : List (List Nat × T)) : List Tok := (l.map fun q => toksG q.2).flatten
theorem toksV_app (l m : List (List Nat × T)) : toksV (l ++ m) = toksV l ++ toksV m := by simp [toksV]
mutual
theorem toks_lv : ∀ (t : T) (p : List Nat), toksV (lv p t) = toksG t
  | .mk k tk tx l, p => by
    simp only [lv]
    by_cases h1 : k = 1
    · rw [if_pos h1]; simp [toksV]
    · by_cases h2 : k = 2
      · rw [if_neg h1, if_pos h2]; simp only [toksG, if_pos h2]; rfl
      · rw [if_neg h1, if_neg h2, toks_lvL l p 0]
        simp only [toksG, if_neg h2, h1, false_and, if_false, List.append_nil]
theorem toks_lvL : ∀ (l : List T) (p : List Nat) (i : Nat), toksV (lvL p i l) = toksGL l
  | [], _, _ => rfl
  | t :: l, p, i => by simp only [lvL, toksGL, toksV_app, toks_lv t, toks_lvL l]
end
mutual
theorem lv_leaf : ∀ (t : T) (p : List Nat), ∀ q ∈ lv p t, q.2.kind = 1
  | .mk k tk tx l, p, q, h => by
    simp only [lv] at h
    by_cases h1 : k = 1
    · rw [if_pos h1] at h; simp at h; rw [h]; exact h1
    · by_cases h2 : k = 2
      · rw [if_neg h1, if_pos h2] at h; cases h
      · rw [if_neg h1, if_neg h2] at h; exact lv_leafL l p 0 q h
theorem lv_leafL : ∀ (l : List T) (p : List Nat) (i : Nat), ∀ q ∈ lvL p i l, q.2.kind = 1
  | [], _, _, q, h => by cases h
  | t :: l, p, i, q, h => by
    simp only [lvL] at h
    rcases List.mem_append.1 h with h | h
    · exact lv_leaf t _ q h
    · exact lv_leafL l p (i + 1) q h
end
mutual
def wt : T → Nat
  | .mk _ _ tx l => wtL (1 + min tx.length 10000 / 16) l
def wtL (k : Nat) : List T → Nat
  | [] => k
  | t :: l => if k < 1000 then wtL (k + wt t) l else k
end
mutual
def cntT : T → Nat
  | .mk _ _ _ l => 1 + cntL l
def cntL : List T → Nat
  | [] => 0
  | t :: l => cntT t + cntL l
end
mutual
def lenT : T → Nat
  | .mk _ _ tx l => tx.length + lenL l
def lenL : List T → Nat
  | [] => 0
  | t :: l => lenT t + lenL l
end
theorem wtL_ge : ∀ (l : List T) (k : Nat), k ≤ wtL k l
  | [], _ => Nat.le_refl _
  | t :: l, k => by
    simp only [wtL]
    split
    · exact Nat.le_trans (Nat.le_add_right _ _) (wtL_ge l _)
    · exact Nat.le_refl _
mutual
theorem wt_bound : ∀ (t : T), wt t < 300 → cntT t ≤ wt t ∧ cntT t + lenT t ≤ 16 * wt t
  | .mk k tk tx l, h => by
    simp only [wt] at h ⊢
    simp only [cntT, lenT]
    have h1 := wtL_bound l _ h
    have h2 := wtL_ge l (1 + min tx.length 10000 / 16)
    omega
theorem wtL_bound : ∀ (l : List T) (k : Nat), wtL k l < 300 → k + cntL l ≤ wtL k l ∧ 16 * k + cntL l + lenL l ≤ 16 * wtL k l
  | [], k, h => by
    show k + 0 ≤ k ∧ 16 * k + 0 + 0 ≤ 16 * k
    omega
  | t :: l, k, h => by
    simp only [wtL] at h ⊢
    split at h
    · rename_i hk
      rw [if_pos hk]
      simp only [cntL, lenL]
      have h1 := wtL_bound l _ h
      have h2 := wtL_ge l (k + wt t)
      have h3 := wt_bound t (by omega)
      omega
    · rename_i hk
      omega
end
mutual
theorem toks_bound : ∀ t : T, (toksG t).length ≤ cntT t ∧ (textG t).length ≤ lenT t
  | .mk k tk tx l => by
    have h := toks_boundL l
    simp only [toksG, textG, cntT, lenT]
    by_cases h2 : k = 2
    · rw [if_pos h2, if_pos h2]; simp
    · rw [if_neg h2, if_neg h2]
      simp only [List.length_append]
      constructor
      · by_cases h1 : k = 1 ∧ ¬ (tk = 0 ∧ tx = [])
        · rw [if_pos h1]; simp only [List.length_cons, List.length_nil]; omega
        · rw [if_neg h1]; simp only [List.length_nil]; omega
      · by_cases h1 : k = 1
        · rw [if_pos h1]; omega
        · rw [if_neg h1]; simp only [List.length_nil]; omega
theorem toks_boundL : ∀ l : List T, (toksGL l).length ≤ cntL l ∧ (textGL l).length ≤ lenL l
  | [] => by simp [toksGL, textGL, cntL, lenL]
  | t :: l => by
    have h1 := toks_bound t
    have h2 := toks_boundL l
    simp only [toksGL, textGL, cntL, lenL, List.length_append]
    omega
end
def emptyB (tk : Nat) (tx : List UInt8) : Bool := tk == 0 && tx == []
def aheadB (one : Tok → Bool) : T → Bool
  | .mk k tk tx l => k == 1 && l.isEmpty && trivB (tk, tx) && one (tk, tx)
mutual
def formT (one : Tok → Bool) : T → Bool
  | .mk k tk tx l => if k = 1 then (emptyB tk tx || one (tk, tx) && !trivB (tk, tx)) && l.all (aheadB one) else if k = 2 then tk == 0 && l.isEmpty else (decide (3 ≤ k ∧ k ≤ 18) && emptyB tk tx) && formL one l
def formL (one : Tok → Bool) : List T → Bool
  | [] => true
  | t :: l => formT one t && formL one l
end
end Go.Green
set_option linter.unusedSimpArgs false
namespace Go.Parse
open Go.VM Go.Lex

mutual
def depT : T → Nat
  | .mk _ _ _ l => depL l + 1
def depL : List T → Nat
  | [] => 0
  | t :: l => max (depT t) (depL l)
end
theorem depL_cons (t : T) (l : List T) : depL (t :: l) = max (depT t) (depL l) := by simp [depL]
end Go.Parse
set_option linter.unusedSimpArgs false
namespace Go.Green
open Go.VM Go.Lex Go.Parse

def preLen (k : Nat) (l : List T) (i : Nat) : Nat := if k = 2 then 0 else (textGL (l.take i)).length
def atG : List Int → T → Option (T × Nat)
  | [], t => some (t, 0)
  | i :: p, .mk k _ _ l => if i < 0 then none else match l[i.toNat]? with
    | none => none
    | some u => match atG p u with
      | none => none
      | some (w, n) => some (w, preLen k l i.toNat + n)
def atR (p : List Int) (t : T) : T × Nat × Bool :=
  match atG p t with
  | some (u, n) => (u, n, true)
  | none => (.mk 0 0 [] [], 0, false)
def errG (b : Bool) : Int := if b then 0 else 5
def fullG (p : List Int) (t : T) : Int × Int := if (atR p t).2.2 then ((atR p t).2.1, ((atR p t).2.1 + (textG (atR p t).1).length : Nat)) else (0, 0)
def ownL (f to : Int) (n : Nat) : List Tok → Int × Int × Nat
  | [] => (f, to, n)
  | t :: l => if trivB t then ownL f to (n + t.2.length) l else ownL (if f < 0 then (n : Int) else f) ((n + t.2.length : Nat) : Int) (n + t.2.length) l
def ownG (p : List Int) (t : T) : Int × Int :=
  if (atR p t).2.2 then
    let r := ownL (-1) 0 (atR p t).2.1 (toksG (atR p t).1)
    if r.1 < 0 then (r.2.2, r.2.2) else (r.1, r.2.1)
  else (0, 0)
def findL (a : Int) (n : Nat) : List (List Nat × T) → Option (List Nat)
  | [] => none
  | q :: l => if a < ((n + (textG q.2).length : Nat) : Int) then some q.1 else findL a (n + (textG q.2).length) l
def findG (t : T) (a : Int) : Option (List Nat) := if a < 0 then none else findL a 0 (lv [] t)
theorem len_take : ∀ {l : List T} {i : Nat} {u : T}, l[i]? = some u → lenL (l.take i) + lenT u ≤ lenL l
  | [], _, _, h => by simp at h
  | t :: l, 0, u, h => by
    obtain rfl : t = u := by simpa using h
    simp only [List.take_zero, lenL]; omega
  | t :: l, i + 1, u, h => by
    have := len_take (l := l) (i := i) (u := u) (by simpa using h)
    simp only [List.take_succ_cons, lenL]; omega
theorem pre_len (k : Nat) (l : List T) (i : Nat) {u : T} (h : l[i]? = some u) : preLen k l i + lenT u ≤ lenL l := by
  have h1 := len_take h
  have h2 := (toks_boundL (l.take i)).2
  unfold preLen
  split <;> omega
theorem cnt_get {l : List T} {i : Nat} {u : T} (h : l[i]? = some u) : cntT u ≤ cntL l := by
  induction l generalizing i with
  | nil => simp at h
  | cons t l ih =>
    simp only [cntL]
    cases i with
    | zero => obtain rfl : t = u := by simpa using h
              omega
    | succ i => have := ih (i := i) (by simpa using h); omega
theorem at_small : ∀ {p : List Int} {t u : T} {n : Nat}, atG p t = some (u, n) → cntT u ≤ cntT t ∧ n + lenT u ≤ lenT t
  | [], t, u, n, h => by
    simp only [atG, Option.some.injEq, Prod.mk.injEq] at h
    obtain ⟨rfl, rfl⟩ := h
    omega
  | i :: p, .mk k tk tx l, u, n, h => by
    simp only [atG] at h
    split at h
    · cases h
    · split at h
      · cases h
      · rename_i w hw
        split at h
        · cases h
        · rename_i u' n' hu
          simp only [Option.some.injEq, Prod.mk.injEq] at h
          obtain ⟨rfl, rfl⟩ := h
          have h1 := at_small hu
          have h2 := cnt_get hw
          have h3 := pre_len k l _ hw
          simp only [cntT, lenT]
          omega
theorem atR_small (p : List Int) (t : T) : cntT (atR p t).1 ≤ cntT t + 1 ∧ (atR p t).2.1 + lenT (atR p t).1 ≤ lenT t := by
  unfold atR
  cases h : atG p t with
  | none => simp [cntT, cntL, lenT, lenL]
  | some un =>
    obtain ⟨u, n⟩ := un
    have := at_small h
    exact ⟨by show cntT u ≤ _; omega, this.2⟩
theorem ownL_n : ∀ (l : List Tok) (f to : Int) (n : Nat), (ownL f to n l).2.2 = n + (bytesT l).length
  | [], f, to, n => by simp [ownL, bytesT]
  | t :: l, f, to, n => by
    have hb : (bytesT (t :: l)).length = t.2.length + (bytesT l).length := by simp [bytesT]
    simp only [ownL]
    split
    · rw [ownL_n l, hb]; omega
    · rw [ownL_n l, hb]; omega
end Go.Green
set_option linter.unusedSimpArgs false
namespace Go.Green
open Go.VM Go.Lex Go.Parse

def toI (p : List Nat) : List Int := p.map fun n : Nat => (n : Int)
def sumL (l : List (List Nat × T)) : Nat := (l.map fun q => (textG q.2).length).sum
theorem sumL_app (l m : List (List Nat × T)) : sumL (l ++ m) = sumL l + sumL m := by simp [sumL]
theorem sumL_cons (q : List Nat × T) (l : List (List Nat × T)) : sumL (q :: l) = (textG q.2).length + sumL l := by simp [sumL]
theorem sumL_toks (l : List (List Nat × T)) : sumL l = (bytesT (toksV l)).length := by
  induction l with
  | nil => rfl
  | cons q l ih =>
    have h2 : toksV (q :: l) = toksG q.2 ++ toksV l := by simp [toksV]
    rw [sumL_cons, ih, h2, bytesT_app, List.length_append, text_toks]
theorem sum_lv (t : T) (p : List Nat) : sumL (lv p t) = (textG t).length := by rw [sumL_toks, toks_lv, ← text_toks]
theorem find_skip (a : Int) : ∀ (d r : List (List Nat × T)) (n : Nat), ¬ a < ((n + sumL d : Nat) : Int) → findL a n (d ++ r) = findL a (n + sumL d) r
  | [], r, n, _ => by simp [sumL]
  | q :: d, r, n, h => by
    rw [sumL_cons] at h
    simp only [List.cons_append, findL]
    rw [if_neg (by omega), find_skip a d r _ (by rw [Nat.add_assoc]; exact h), sumL_cons, Nat.add_assoc]
end Go.Green
set_option linter.unusedSimpArgs false
namespace Go.Green
open Go.VM Go.Lex Go.Parse

theorem atG_cons {i : Int} {p : List Int} {k tk : Nat} {tx : List UInt8} {l : List T} {u : T} {n : Nat} (h : atG (i :: p) (.mk k tk tx l) = some (u, n)) :
    0 ≤ i ∧ ∃ w m, l[i.toNat]? = some w ∧ atG p w = some (u, m) ∧ n = preLen k l i.toNat + m := by
  simp only [atG] at h
  split at h
  · cases h
  · rename_i h0
    split at h
    · cases h
    · rename_i w hw
      split at h
      · cases h
      · rename_i u' m hu
        simp only [Option.some.injEq, Prod.mk.injEq] at h
        obtain ⟨rfl, rfl⟩ := h
        exact ⟨by omega, w, m, hw, hu, rfl⟩
theorem atG_mk {i : Int} {p : List Int} {k tk : Nat} {tx : List UInt8} {l : List T} {u w : T} {m : Nat} (h0 : 0 ≤ i) (hw : l[i.toNat]? = some w) (hu : atG p w = some (u, m)) : atG (i :: p) (.mk k tk tx l) = some (u, preLen k l i.toNat + m) := by
  simp only [atG, if_neg (show ¬ i < 0 by omega), hw, hu]
def putG : List Int → T → T → T
  | [], _, m => m
  | i :: p, .mk k tk tx l, m => match l[i.toNat]? with
    | some w => .mk k tk tx (l.set i.toNat (putG p w m))
    | none => .mk k tk tx l
theorem putG_mk {i : Int} {p : List Int} {k tk : Nat} {tx : List UInt8} {l : List T} {w m : T} (hw : l[i.toNat]? = some w) : putG (i :: p) (.mk k tk tx l) m = .mk k tk tx (l.set i.toNat (putG p w m)) := by
  simp only [putG, hw]
def NoMiss (p : List Int) (t : T) : Prop := ∀ i, i < p.length → ∀ x c, atG (p.take i) t = some (x, c) → x.kind ≠ 2
theorem NoMiss.here {i : Int} {p : List Int} {t : T} (h : NoMiss (i :: p) t) : t.kind ≠ 2 := h 0 (by simp) t 0 rfl
theorem NoMiss.next {i : Int} {p : List Int} {k tk : Nat} {tx : List UInt8} {l : List T} {w : T} (h : NoMiss (i :: p) (.mk k tk tx l)) (h0 : 0 ≤ i) (hw : l[i.toNat]? = some w) : NoMiss p w := by
  intro j hj x c hx
  exact h (j + 1) (by simpa using hj) x _ (by rw [List.take_succ_cons]; exact atG_mk h0 hw hx)
theorem textGL_app : ∀ (l m : List T), textGL (l ++ m) = textGL l ++ textGL m
  | [], m => by simp [textGL]
  | t :: l, m => by simp only [List.cons_append, textGL, textGL_app l m, List.append_assoc]
theorem textGL_at {l : List T} {i : Nat} {w : T} (h : l[i]? = some w) : textGL l = textGL (l.take i) ++ (textG w ++ textGL (l.drop (i + 1))) := by
  have hlt : i < l.length := by
    rcases Nat.lt_or_ge i l.length with h' | h'
    · exact h'
    · rw [List.getElem?_eq_none h'] at h; cases h
  have e : l = l.take i ++ w :: l.drop (i + 1) := by
    rw [List.getElem?_eq_getElem hlt] at h
    obtain rfl : l[i] = w := by simpa using h
    rw [List.getElem_cons_drop, List.take_append_drop]
  have e2 := congrArg textGL e
  rw [textGL_app] at e2
  exact e2
theorem textGL_set {l : List T} {i : Nat} (m : T) (h : i < l.length) : textGL (l.set i m) = textGL (l.take i) ++ (textG m ++ textGL (l.drop (i + 1))) := by
  have h1 : (l.set i m)[i]? = some m := by simp [h]
  rw [textGL_at h1]
  congr 1
  · rw [List.take_set_of_le (Nat.le_refl _)]
  · rw [List.drop_set_of_lt (Nat.lt_succ_self _)]
theorem lt_of_get {α : Type} {l : List α} {i : Nat} {w : α} (h : l[i]? = some w) : i < l.length := by
  rcases Nat.lt_or_ge i l.length with h' | h'
  · exact h'
  · rw [List.getElem?_eq_none h'] at h; cases h
theorem at_split : ∀ {p : List Int} {t u : T} {n : Nat}, atG p t = some (u, n) → NoMiss p t → ∃ pre post, textG t = pre ++ (textG u ++ post) ∧ pre.length = n ∧ ∀ m, textG (putG p t m) = pre ++ (textG m ++ post)
  | [], t, u, n, h, _ => by
    simp only [atG, Option.some.injEq, Prod.mk.injEq] at h
    obtain ⟨rfl, rfl⟩ := h
    exact ⟨[], [], by simp, rfl, fun m => by simp [putG]⟩
  | i :: p, .mk k tk tx l, u, n, h, hn => by
    obtain ⟨h0, w, m, hw, hu, rfl⟩ := atG_cons h
    have hk : k ≠ 2 := hn.here
    obtain ⟨pre, post, h1, h2, h3⟩ := at_split hu (hn.next h0 hw)
    refine ⟨textGL (l.take i.toNat) ++ pre, post ++ (textGL (l.drop (i.toNat + 1)) ++ if k = 1 then tx else []), ?_, ?_, fun m' => ?_⟩
    · simp only [textG, if_neg hk]
      rw [textGL_at hw, h1]
      simp only [List.append_assoc]
    · rw [List.length_append, h2]
      simp only [preLen, if_neg hk]
    · rw [putG_mk hw]
      simp only [textG, if_neg hk]
      rw [textGL_set _ (lt_of_get hw), h3]
      simp only [List.append_assoc]
mutual
def wfT : T → Bool
  | .mk k _ tx l => (k == 1 || (k == 2 && l.isEmpty) || (k != 2 && tx == [])) && wfL l
def wfL : List T → Bool
  | [] => true
  | t :: l => wfT t && wfL l
end
theorem wf_ahead {one : Tok → Bool} {t : T} (h : aheadB one t = true) : wfT t = true := by
  cases t with
  | mk k tk tx l =>
    simp only [aheadB, Bool.and_eq_true, beq_iff_eq] at h
    obtain ⟨⟨⟨h1, h2⟩, _⟩, _⟩ := h
    cases l with
    | nil => simp [wfT, wfL, h1]
    | cons _ _ => cases h2
theorem wfL_all : ∀ {l : List T}, (∀ t ∈ l, wfT t = true) → wfL l = true
  | [], _ => rfl
  | t :: l, h => by
    simp only [wfL, Bool.and_eq_true]
    exact ⟨h t List.mem_cons_self, wfL_all fun u hu => h u (List.mem_cons_of_mem _ hu)⟩
mutual
theorem wf_form {one : Tok → Bool} : ∀ (t : T), formT one t = true → wfT t = true
  | .mk k tk tx l, h => by
    simp only [formT] at h
    by_cases h1 : k = 1
    · rw [if_pos h1] at h
      simp only [Bool.and_eq_true, List.all_eq_true] at h
      simp only [wfT, h1, beq_self_eq_true, Bool.true_or, Bool.true_and]
      exact wfL_all fun t ht => wf_ahead (h.2 t ht)
    · by_cases h2 : k = 2
      · rw [if_neg h1, if_pos h2] at h
        simp only [Bool.and_eq_true] at h
        cases l with
        | nil => simp [wfT, wfL, h2]
        | cons _ _ => simp at h
      · rw [if_neg h1, if_neg h2] at h
        simp only [Bool.and_eq_true, emptyB, beq_iff_eq] at h
        simp only [wfT, wf_formL l h.2, Bool.and_true, h.1.2.2, beq_self_eq_true]
        simp [h2]
theorem wf_formL {one : Tok → Bool} : ∀ (l : List T), formL one l = true → wfL l = true
  | [], _ => rfl
  | t :: l, h => by
    simp only [formL, Bool.and_eq_true] at h
    simp only [wfL, wf_form t h.1, wf_formL l h.2, Bool.and_self]
end
theorem wfL_get {l : List T} {i : Nat} {w : T} (h : wfL l = true) (hw : l[i]? = some w) : wfT w = true := by
  induction l generalizing i with
  | nil => simp at hw
  | cons t l ih =>
    simp only [wfL, Bool.and_eq_true] at h
    cases i with
    | zero => obtain rfl : t = w := by simpa using hw
              exact h.1
    | succ i => exact ih h.2 (i := i) (by simpa using hw)
theorem wf_kids {k tk : Nat} {tx : List UInt8} {l : List T} (h : wfT (.mk k tk tx l) = true) : wfL l = true := by
  simp only [wfT, Bool.and_eq_true] at h
  exact h.2
theorem wf_at : ∀ {p : List Int} {t u : T} {n : Nat}, atG p t = some (u, n) → wfT t = true → wfT u = true ∧ NoMiss p t
  | [], t, u, n, h, hw => by
    simp only [atG, Option.some.injEq, Prod.mk.injEq] at h
    obtain ⟨rfl, rfl⟩ := h
    exact ⟨hw, fun i hi => by simp at hi⟩
  | i :: p, .mk k tk tx l, u, n, h, hwf => by
    obtain ⟨h0, w, m, hw, hu, rfl⟩ := atG_cons h
    obtain ⟨h1, h2⟩ := wf_at hu (wfL_get (wf_kids hwf) hw)
    refine ⟨h1, fun j hj x c hx => ?_⟩
    cases j with
    | zero =>
      simp only [List.take_zero, atG, Option.some.injEq, Prod.mk.injEq] at hx
      obtain ⟨rfl, rfl⟩ := hx
      intro hk
      have hk : k = 2 := hk
      simp only [wfT, hk, Bool.and_eq_true] at hwf
      cases l with
      | nil => simp at hw
      | cons _ _ => simp at hwf
    | succ j =>
      rw [List.take_succ_cons] at hx
      obtain ⟨_, w', m', hw', hu', rfl⟩ := atG_cons hx
      rw [hw] at hw'
      obtain rfl : w = w' := by simpa using hw'
      exact h2 j (by simpa using hj) x m' hu'
theorem at_app : ∀ {p : List Int} {t u : T} {n : Nat} (q : List Int), atG p t = some (u, n) → atG (p ++ q) t = match atG q u with | none => none | some (w, m) => some (w, n + m)
  | [], t, u, n, q, h => by
    simp only [atG, Option.some.injEq, Prod.mk.injEq] at h
    obtain ⟨rfl, rfl⟩ := h
    rw [List.nil_append]
    cases atG q t with
    | none => rfl
    | some wm => obtain ⟨w, m⟩ := wm; simp
  | i :: p, .mk k tk tx l, u, n, q, h => by
    obtain ⟨h0, w, m, hw, hu, rfl⟩ := atG_cons h
    have h1 := at_app q hu
    rw [List.cons_append]
    simp only [atG, if_neg (show ¬ i < 0 by omega), hw, h1]
    cases atG q u with
    | none => rfl
    | some wm => obtain ⟨w', m'⟩ := wm; simp [Nat.add_assoc]
theorem ownL_le : ∀ (l : List Tok) (f g : Int) (n n0 : Nat), (f < 0 ∨ ((n0 : Int) ≤ f ∧ f ≤ g ∧ g ≤ (n : Int))) → n0 ≤ n →
    ((ownL f g n l).1 < 0 ∨ ((n0 : Int) ≤ (ownL f g n l).1 ∧ (ownL f g n l).1 ≤ (ownL f g n l).2.1 ∧ (ownL f g n l).2.1 ≤ ((ownL f g n l).2.2 : Int)))
  | [], f, g, n, n0, h, _ => h
  | t :: l, f, g, n, n0, h, hn => by
    simp only [ownL]
    split
    · refine ownL_le l f g _ n0 ?_ (by omega)
      rcases h with h | h
      · exact .inl h
      · exact .inr ⟨h.1, h.2.1, by omega⟩
    · refine ownL_le l _ _ _ n0 (.inr ?_) (by omega)
      split <;> omega
theorem own_within {p : List Int} {t u : T} {n : Nat} (h : atG p t = some (u, n)) : (fullG p t).1 ≤ (ownG p t).1 ∧ (ownG p t).1 ≤ (ownG p t).2 ∧ (ownG p t).2 ≤ (fullG p t).2 := by
  have hR : atR p t = (u, n, true) := by simp only [atR, h]
  have h1 := ownL_le (toksG u) (-1) 0 n n (.inl (by omega)) (Nat.le_refl _)
  have h2 := ownL_n (toksG u) (-1) 0 n
  rw [← text_toks] at h2
  simp only [fullG, ownG, hR, if_true]
  split
  · rename_i h3
    omega
  · rename_i h3
    rcases h1 with h1 | h1
    · exact absurd h1 h3
    · omega
end Go.Green
