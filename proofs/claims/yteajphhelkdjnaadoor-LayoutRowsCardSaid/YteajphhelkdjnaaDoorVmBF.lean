/-
  (A part of the proof: Utf, Utf2, Kit3, Kit4, Kit5.)
-/
import Derived.Test.YteajphhelkdjnaaDoorVmBD
import Derived.Test.YteajphhelkdjnaaDoorVmAJ
import Derived.Lib.TrimUEq
import Derived.Lib.ValidU
/- UTF-8 by its bytes: how many bytes a character has; what is valid; how many characters. -/
namespace Go.VM
open Go.Lib

/-- How many bytes the character has that begins with these; 0: there is none. -/
def szN (n b0 b1 b2 b3 : Nat) : Nat :=
  if b0 < 128 then 1
  else if 194 ≤ b0 ∧ b0 ≤ 223 then (if n < 2 ∨ b1 < 128 ∨ 191 < b1 then 0 else 2)
  else if 224 ≤ b0 ∧ b0 ≤ 239 then (if n < 3 ∨ b1 < 128 ∨ 191 < b1 ∨ b2 < 128 ∨ 191 < b2 ∨ (b0 = 224 ∧ b1 < 160) ∨ (b0 = 237 ∧ 159 < b1) then 0 else 3)
  else if 240 ≤ b0 ∧ b0 ≤ 244 then (if n < 4 ∨ b1 < 128 ∨ 191 < b1 ∨ b2 < 128 ∨ 191 < b2 ∨ b3 < 128 ∨ 191 < b3 ∨ (b0 = 240 ∧ b1 < 144) ∨ (b0 = 244 ∧ 143 < b1) then 0 else 4)
  else 0
set_option maxHeartbeats 2000000 in
theorem szN_decode {n b0 b1 b2 b3 : Nat} (h0 : b0 < 256) (h1 : b1 < 256) (h2 : b2 < 256) (h3 : b3 < 256) :
    (szN n b0 b1 b2 b3 = 0 ∧ decodeN n b0 b1 b2 b3 = (65533, 1)) ∨ (szN n b0 b1 b2 b3 = 1 ∧ b0 < 128 ∧ decodeN n b0 b1 b2 b3 = (b0, 1)) ∨ (2 ≤ szN n b0 b1 b2 b3 ∧ (decodeN n b0 b1 b2 b3).2 = szN n b0 b1 b2 b3) := by
  by_cases c0 : b0 < 128
  · refine .inr (.inl ⟨?_, c0, ?_⟩)
    · unfold szN; rw [if_pos c0]
    · unfold decodeN; rw [if_pos c0]
  by_cases z : szN n b0 b1 b2 b3 = 0
  · refine .inl ⟨z, ?_⟩
    unfold szN at z
    unfold decodeN
    repeat' split
    all_goals first | rfl | (exfalso; (repeat' (split at z)); all_goals omega)
  · have hc : (szN n b0 b1 b2 b3 = 2 ∧ (194 ≤ b0 ∧ b0 ≤ 223) ∧ ¬ (n < 2 ∨ b1 < 128 ∨ 191 < b1)) ∨
        (szN n b0 b1 b2 b3 = 3 ∧ (224 ≤ b0 ∧ b0 ≤ 239) ∧ ¬ (n < 3 ∨ b1 < 128 ∨ 191 < b1 ∨ b2 < 128 ∨ 191 < b2 ∨ (b0 = 224 ∧ b1 < 160) ∨ (b0 = 237 ∧ 159 < b1))) ∨
        (szN n b0 b1 b2 b3 = 4 ∧ (240 ≤ b0 ∧ b0 ≤ 244) ∧ ¬ (n < 4 ∨ b1 < 128 ∨ 191 < b1 ∨ b2 < 128 ∨ 191 < b2 ∨ b3 < 128 ∨ 191 < b3 ∨ (b0 = 240 ∧ b1 < 144) ∨ (b0 = 244 ∧ 143 < b1))) := by
      unfold szN at z ⊢
      rw [if_neg c0] at z ⊢
      by_cases c1 : 194 ≤ b0 ∧ b0 ≤ 223
      · rw [if_pos c1] at z ⊢
        by_cases d : n < 2 ∨ b1 < 128 ∨ 191 < b1
        · rw [if_pos d] at z; omega
        · rw [if_neg d]; exact .inl ⟨rfl, c1, d⟩
      rw [if_neg c1] at z ⊢
      by_cases c2 : 224 ≤ b0 ∧ b0 ≤ 239
      · rw [if_pos c2] at z ⊢
        by_cases d : n < 3 ∨ b1 < 128 ∨ 191 < b1 ∨ b2 < 128 ∨ 191 < b2 ∨ (b0 = 224 ∧ b1 < 160) ∨ (b0 = 237 ∧ 159 < b1)
        · rw [if_pos d] at z; omega
        · rw [if_neg d]; exact .inr (.inl ⟨rfl, c2, d⟩)
      rw [if_neg c2] at z ⊢
      by_cases c3 : 240 ≤ b0 ∧ b0 ≤ 244
      · rw [if_pos c3] at z ⊢
        by_cases d : n < 4 ∨ b1 < 128 ∨ 191 < b1 ∨ b2 < 128 ∨ 191 < b2 ∨ b3 < 128 ∨ 191 < b3 ∨ (b0 = 240 ∧ b1 < 144) ∨ (b0 = 244 ∧ 143 < b1)
        · rw [if_pos d] at z; omega
        · rw [if_neg d]; exact .inr (.inr ⟨rfl, c3, d⟩)
      · rw [if_neg c3] at z; omega
    refine .inr (.inr ?_)
    rcases hc with ⟨e, c, d⟩ | ⟨e, c, d⟩ | ⟨e, c, d⟩
    all_goals
      rw [e]
      refine ⟨by omega, ?_⟩
      unfold decodeN
      repeat' split
      all_goals first | rfl | (exfalso; omega)
theorem szN_le {n b0 b1 b2 b3 : Nat} (h : 1 ≤ n) : szN n b0 b1 b2 b3 ≤ n := by
  unfold szN
  repeat' split
  all_goals omega
def szL (l : List UInt8) : Nat := szN l.length (l.getD 0 0).toNat (l.getD 1 0).toNat (l.getD 2 0).toNat (l.getD 3 0).toNat
theorem szL_decode (l : List UInt8) : (szL l = 0 ∧ decodeL l = (65533, 1)) ∨ (szL l = 1 ∧ (l.getD 0 0).toNat < 128 ∧ decodeL l = ((l.getD 0 0).toNat, 1)) ∨ (2 ≤ szL l ∧ (decodeL l).2 = szL l) := by
  unfold szL
  rw [decodeL_N]
  exact szN_decode (UInt8.toNat_lt _) (UInt8.toNat_lt _) (UInt8.toNat_lt _) (UInt8.toNat_lt _)
theorem szL_le {l : List UInt8} (h : l ≠ []) : szL l ≤ l.length := szN_le (List.length_pos_iff.2 h)
/-- Valid: character by character (so many of them at most). -/
def validF : Nat → List UInt8 → Bool
  | 0, _ => true
  | n + 1, l => if l = [] then true else if szL l = 0 then false else validF n (l.drop (szL l))
theorem validF_eq : ∀ (n : Nat) (l : List UInt8), validGoD n l = validF n l
  | 0, _ => rfl
  | n + 1, l => by
    unfold validGoD validF
    by_cases h : l = []
    · rw [if_pos h, if_pos h]
    rw [if_neg h, if_neg h]
    rcases szL_decode l with ⟨h1, h2⟩ | ⟨h1, h2, h3⟩ | ⟨h1, h2⟩
    · have hd : (decodeL l).1 = 65533 ∧ (decodeL l).2 = 1 := by rw [h2]; exact ⟨rfl, rfl⟩
      rw [if_pos hd, if_pos h1]
    · have hd : ¬ ((decodeL l).1 = 65533 ∧ (decodeL l).2 = 1) := by rw [h3]; show ¬ ((l.getD 0 0).toNat = 65533 ∧ _); omega
      have hz : ¬ szL l = 0 := by omega
      rw [if_neg hd, if_neg hz, h3, h1]; exact validF_eq n _
    · have hd : ¬ ((decodeL l).1 = 65533 ∧ (decodeL l).2 = 1) := by omega
      have hz : ¬ szL l = 0 := by omega
      rw [if_neg hd, if_neg hz, h2]; exact validF_eq n _
def validS (l : List UInt8) : Bool := validF l.length l
theorem validS_eq (l : List UInt8) : validD l = validS l := validF_eq _ _
theorem validF_fuel : ∀ (n m : Nat) (l : List UInt8), l.length ≤ n → l.length ≤ m → validF n l = validF m l
  | 0, 0, _, _, _ => rfl
  | 0, m + 1, l, h, _ => by
    have : l = [] := List.eq_nil_of_length_eq_zero (by omega)
    subst this
    simp [validF]
  | n + 1, 0, l, _, h => by
    have : l = [] := List.eq_nil_of_length_eq_zero (by omega)
    subst this
    simp [validF]
  | n + 1, m + 1, l, hn, hm => by
    unfold validF
    by_cases h : l = []
    · rw [if_pos h, if_pos h]
    rw [if_neg h, if_neg h]
    by_cases hz : szL l = 0
    · rw [if_pos hz, if_pos hz]
    · rw [if_neg hz, if_neg hz, validF_fuel n m _ (by rw [List.length_drop]; omega) (by rw [List.length_drop]; omega)]
theorem validS_step {l : List UInt8} (h : l ≠ []) : validS l = if szL l = 0 then false else validS (l.drop (szL l)) := by
  unfold validS
  have hl : 0 < l.length := List.length_pos_iff.2 h
  obtain ⟨n, hn⟩ : ∃ n, l.length = n + 1 := ⟨l.length - 1, by omega⟩
  rw [hn]
  show (if l = [] then true else _) = _
  rw [if_neg h]
  by_cases hz : szL l = 0
  · rw [if_pos hz, if_pos hz]
  · rw [if_neg hz, if_neg hz]
    exact validF_fuel _ _ _ (by rw [List.length_drop]; omega) (Nat.le_refl _)
/-- Does a character begin at a byte? -/
def isHead (b : UInt8) : Bool := decide (b.toNat < 128) || decide (b.toNat > 191)
def chars (s : List UInt8) : Nat := s.countP isHead
theorem chars_le (s : List UInt8) : chars s ≤ s.length := List.countP_le_length
theorem szL_chars {l : List UInt8} (h : l ≠ []) (hz : szL l ≠ 0) : chars l = 1 + chars (l.drop (szL l)) := by
  have hle := szL_le h
  match l, h with
  | [b0], _ =>
    have h1 : szL [b0] = 1 := by simp only [List.length_singleton] at hle; omega
    have hb : b0.toNat < 128 := by
      rcases szL_decode [b0] with ⟨h2, _⟩ | ⟨_, h2, _⟩ | ⟨h2, _⟩
      · omega
      · exact h2
      · omega
    rw [h1]; simp [chars, isHead, hb]
  | b0 :: b1 :: l, _ =>
    unfold szL at hz hle ⊢
    unfold szN at hz hle ⊢
    simp only [List.getD_cons_zero, List.getD_cons_succ] at hz hle ⊢
    by_cases c0 : b0.toNat < 128
    · rw [if_pos c0]; simp [chars, isHead, c0, Nat.add_comm]
    rw [if_neg c0] at hz hle ⊢
    by_cases c1 : 194 ≤ b0.toNat ∧ b0.toNat ≤ 223
    · rw [if_pos c1] at hz hle ⊢
      by_cases d : (b0 :: b1 :: l).length < 2 ∨ b1.toNat < 128 ∨ 191 < b1.toNat
      · rw [if_pos d] at hz; omega
      rw [if_neg d]
      have e0 : isHead b0 = true := by simp only [isHead, Bool.or_eq_true, decide_eq_true_eq]; omega
      have e1 : isHead b1 = false := by simp only [isHead, Bool.or_eq_false_iff, decide_eq_false_iff_not]; omega
      simp [chars, e0, e1, Nat.add_comm]
    rw [if_neg c1] at hz hle ⊢
    match l with
    | [] =>
      exfalso
      simp only [List.length_cons, List.length_nil] at hz hle
      revert hz
      repeat' split
      all_goals omega
    | [b2] =>
      simp only [List.length_cons, List.length_nil, List.getD_cons_zero] at hz hle ⊢
      by_cases c2 : 224 ≤ b0.toNat ∧ b0.toNat ≤ 239
      · rw [if_pos c2] at hz hle ⊢
        by_cases d : 0 + 1 + 1 + 1 < 3 ∨ b1.toNat < 128 ∨ 191 < b1.toNat ∨ b2.toNat < 128 ∨ 191 < b2.toNat ∨ (b0.toNat = 224 ∧ b1.toNat < 160) ∨ (b0.toNat = 237 ∧ 159 < b1.toNat)
        · rw [if_pos d] at hz; omega
        rw [if_neg d]
        have e0 : isHead b0 = true := by simp only [isHead, Bool.or_eq_true, decide_eq_true_eq]; omega
        have e1 : isHead b1 = false := by simp only [isHead, Bool.or_eq_false_iff, decide_eq_false_iff_not]; omega
        have e2 : isHead b2 = false := by simp only [isHead, Bool.or_eq_false_iff, decide_eq_false_iff_not]; omega
        simp [chars, e0, e1, e2]
      rw [if_neg c2] at hz hle ⊢
      exfalso
      revert hz
      repeat' split
      all_goals omega
    | b2 :: b3 :: l =>
      simp only [List.getD_cons_zero, List.getD_cons_succ] at hz hle ⊢
      by_cases c2 : 224 ≤ b0.toNat ∧ b0.toNat ≤ 239
      · rw [if_pos c2] at hz hle ⊢
        by_cases d : (b0 :: b1 :: b2 :: b3 :: l).length < 3 ∨ b1.toNat < 128 ∨ 191 < b1.toNat ∨ b2.toNat < 128 ∨ 191 < b2.toNat ∨ (b0.toNat = 224 ∧ b1.toNat < 160) ∨ (b0.toNat = 237 ∧ 159 < b1.toNat)
        · rw [if_pos d] at hz; omega
        rw [if_neg d]
        have e0 : isHead b0 = true := by simp only [isHead, Bool.or_eq_true, decide_eq_true_eq]; omega
        have e1 : isHead b1 = false := by simp only [isHead, Bool.or_eq_false_iff, decide_eq_false_iff_not]; omega
        have e2 : isHead b2 = false := by simp only [isHead, Bool.or_eq_false_iff, decide_eq_false_iff_not]; omega
        simp [chars, e0, e1, e2, Nat.add_comm]
      rw [if_neg c2] at hz hle ⊢
      by_cases c3 : 240 ≤ b0.toNat ∧ b0.toNat ≤ 244
      · rw [if_pos c3] at hz hle ⊢
        by_cases d : (b0 :: b1 :: b2 :: b3 :: l).length < 4 ∨ b1.toNat < 128 ∨ 191 < b1.toNat ∨ b2.toNat < 128 ∨ 191 < b2.toNat ∨ b3.toNat < 128 ∨ 191 < b3.toNat ∨ (b0.toNat = 240 ∧ b1.toNat < 144) ∨ (b0.toNat = 244 ∧ 143 < b1.toNat)
        · rw [if_pos d] at hz; omega
        rw [if_neg d]
        have e0 : isHead b0 = true := by simp only [isHead, Bool.or_eq_true, decide_eq_true_eq]; omega
        have e1 : isHead b1 = false := by simp only [isHead, Bool.or_eq_false_iff, decide_eq_false_iff_not]; omega
        have e2 : isHead b2 = false := by simp only [isHead, Bool.or_eq_false_iff, decide_eq_false_iff_not]; omega
        have e3 : isHead b3 = false := by simp only [isHead, Bool.or_eq_false_iff, decide_eq_false_iff_not]; omega
        simp [chars, e0, e1, e2, e3, Nat.add_comm]
      · rw [if_neg c3] at hz; omega
end Go.VM
/- UTF-8: how many characters, by the library's count. -/
namespace Go.VM
open Go.Lib

theorem runes_from : ∀ (n : Nat) (s : ByteArray) (p : Nat), s.size ≤ p + n → validS (s.data.toList.drop p) = true → runeCountFrom s n p = chars (s.data.toList.drop p)
  | 0, s, p, h, _ => by
    have : s.data.toList.drop p = [] := List.drop_eq_nil_of_le (by rw [← size_eq]; omega)
    rw [this]; rfl
  | n + 1, s, p, h, hv => by
    unfold runeCountFrom
    by_cases hp : p < s.size
    · rw [if_pos hp]
      have hne : s.data.toList.drop p ≠ [] := by
        intro e
        have := congrArg List.length e
        rw [List.length_drop, ← size_eq] at this
        simp at this
        omega
      rw [validS_step hne] at hv
      by_cases hz : szL (s.data.toList.drop p) = 0
      · rw [if_pos hz] at hv; cases hv
      rw [if_neg hz, List.drop_drop] at hv
      have hw : (Utf8.decode s p).2 = szL (s.data.toList.drop p) := by
        rw [← decodeL_drop]
        rcases szL_decode (s.data.toList.drop p) with ⟨h1, _⟩ | ⟨h1, _, h2⟩ | ⟨_, h2⟩
        · exact absurd h1 hz
        · rw [h1, h2]
        · exact h2
      rw [hw, runes_from n s _ (by omega) hv, szL_chars hne hz, List.drop_drop]
    · rw [if_neg hp]
      have : s.data.toList.drop p = [] := List.drop_eq_nil_of_le (by rw [← size_eq]; omega)
      rw [this]; rfl
theorem runes_chars {l : List UInt8} (h : validS l = true) : runeCountL l = chars l := by
  have := runes_from l.length ⟨l.toArray⟩ 0 (by simp [ByteArray.size]) (by simpa using h)
  simpa [runeCountL, runeCount, ByteArray.size] using this

section
variable {β : Type} {O : Orc}
theorem planS_lib {f : List AV → Res AV} {args : List AV} {v : AV} (h : f args = .ok v) (st : St) (K : Kv β) : planS O (primP (.lib f) args) st K = K v st q0 := by
  simp only [planS, outS, primP, h, planO, bindO_ok]
theorem libRunes_ok {s : List UInt8} (h : s.length < 9223372036854775807) : libRunes [.str s] = .ok (.int .i64 (runeCountL s)) := by
  simp only [libRunes, blt_true.2 h]
theorem libValid_ok {s : List UInt8} (h : s.length ≤ 9223372036854775807) : libValid [.str s] = .ok (.bool (validS s)) := by
  simp only [libValid, Nat.ble_eq_true_of_le h, validS_eq]
theorem libRepeat_ok {s : List UInt8} {n : Nat} (h : s.length * n ≤ 140737488355328) (hn : n ≤ 9223372036854775807) : libRepeat [.str s, .int .i64 (n : Int)] = .ok (.str (repeatL s n)) := by
  show (match (s.length * n).ble 140737488355328 && n.ble 9223372036854775807 with | true => _ | false => _) = _
  rw [Nat.ble_eq_true_of_le h, Nat.ble_eq_true_of_le hn]; rfl
theorem indexByte_any (c : UInt8) : ∀ (s : List UInt8), decide (0 ≤ indexByte s c) = s.any fun b => b == c
  | [] => rfl
  | b :: l => by
    have ih := indexByte_any c l
    unfold indexByte
    rw [List.any_cons]
    cases b == c with
    | true => rfl
    | false =>
      rw [if_neg (by simp), Bool.false_or, ← ih]
      by_cases h : (indexByte l c == -1) = true
      · rw [if_pos h]
        have := eq_of_beq h
        rw [this]
      · rw [if_neg h]
        have hn : indexByte l c ≠ -1 := fun e => h (by rw [e]; rfl)
        by_cases h0 : 0 ≤ indexByte l c
        · rw [decide_eq_true h0, decide_eq_true (by omega)]
        · rw [decide_eq_false h0, decide_eq_false (by omega)]
theorem libContains_ok (s : List UInt8) (c : UInt8) : libContains [.str s, .str [c]] = .ok (.bool (s.any fun b => b == c)) := by
  simp only [libContains, indexByte_any]
theorem repeatL_one (c : UInt8) : ∀ (n : Nat), repeatL [c] n = List.replicate n c := fun n => by
  have := repeatL_replicate c 1 n
  simpa using this
end
end Go.VM
/- Small facts that walks of shallow forms want; slices that own their ends, side by side; bytes of a text. -/
namespace Go.VM
open Go

@[simp] theorem oneOf_one (v : AV) : oneOf [v] = v := id rfl
@[simp] theorem notNil_ip (cs : List AV) : notNil (.ip cs) = true := id rfl
@[simp] theorem notNil_mp (i o : Nat) : notNil (.mp i o) = true := id rfl
@[simp] theorem drop1 (a : AV) (l : List AV) : (a :: l).drop 1 = l := id rfl
@[simp] theorem drop2 (a b : AV) (l : List AV) : (a :: b :: l).drop 2 = l := id rfl
@[simp] theorem drop3 (a b c : AV) (l : List AV) : (a :: b :: c :: l).drop 3 = l := id rfl
@[simp] theorem drop4 (a b c d : AV) (l : List AV) : (a :: b :: c :: d :: l).drop 4 = l := id rfl
@[simp] theorem drop5 (a b c d e : AV) (l : List AV) : (a :: b :: c :: d :: e :: l).drop 5 = l := id rfl
@[simp] theorem takeO1 (a : AV) (l : List AV) : takeO 1 true (a :: l) = some (.agg [a]) := id rfl
@[simp] theorem takeO2 (a b : AV) (l : List AV) : takeO 2 true (a :: b :: l) = some (.agg [a, b]) := id rfl
@[simp] theorem takeO3 (a b c : AV) (l : List AV) : takeO 3 true (a :: b :: c :: l) = some (.agg [a, b, c]) := id rfl
@[simp] theorem takeO4 (a b c d : AV) (l : List AV) : takeO 4 true (a :: b :: c :: d :: l) = some (.agg [a, b, c, d]) := id rfl
@[simp] theorem cells_agg (cs : List AV) : AV.cells (.agg cs) = cs := id rfl
@[simp] theorem cells_str (s : List UInt8) : AV.cells (.str s) = [.str s] := id rfl
@[simp] theorem cells_int (k : IntKind) (n : Int) : AV.cells (.int k n) = [.int k n] := id rfl
@[simp] theorem cells_fn (f : Fn) (a b : List AV) : AV.cells (.fn f a b) = [.fn f a b] := id rfl
@[simp] theorem apart_made1 (i : Nat) (o : VM.Obj) : apart q0 ⟨[], .made i o⟩ = true := id rfl
@[simp] theorem apart_made2 (i : Nat) (o : VM.Obj) : apart ⟨[], .kept⟩ ⟨[], .made i o⟩ = true := id rfl
@[simp] theorem apart_wrote1 (i : Nat) (o : VM.Obj) : apart ⟨[], .kept⟩ ⟨[i], .wrote i o⟩ = true := id rfl
/-! Slices that own their ends. -/
end Go.VM
/- Appends of many elements; tuples of what freezing leaves; arrays that may be written. -/
namespace Go.VM
open Go

/-! Arrays that may be written: a slice over all of an object's cells. -/
/-- Elements that are written cell by cell. -/
structure Els (z : Nat) (agg : Bool) (es : List AV) : Prop where
  one : ∀ v ∈ es, ones v.cells = true
  size : ∀ v ∈ es, v.cells.length = z
  fit : ∀ v ∈ es, ∀ c ∈ v.cells, Fz 1 c
  fits : ∀ v ∈ es, VM.fit v = .ok v
  shape : ∀ v ∈ es, agg = true → ∃ cs, v = .agg cs
  notagg : ∀ v ∈ es, agg = false → VM.one v = true
theorem Els.set {z : Nat} {agg : Bool} {es : List AV} (he : Els z agg es) {k : Nat} {w : AV} (hw : Els z agg [w]) : Els z agg (es.set k w) := by
  have key : ∀ v ∈ es.set k w, v ∈ es ∨ v = w := fun v hv => List.mem_or_eq_of_mem_set hv
  have hm : w ∈ [w] := by simp
  exact ⟨fun v hv => (key v hv).elim (he.one v) (fun e => e ▸ hw.one w hm), fun v hv => (key v hv).elim (he.size v) (fun e => e ▸ hw.size w hm),
    fun v hv => (key v hv).elim (he.fit v) (fun e => e ▸ hw.fit w hm), fun v hv => (key v hv).elim (he.fits v) (fun e => e ▸ hw.fits w hm),
    fun v hv => (key v hv).elim (he.shape v) (fun e => e ▸ hw.shape w hm), fun v hv => (key v hv).elim (he.notagg v) (fun e => e ▸ hw.notagg w hm)⟩
/-! What reads the same before and after a call. -/
def Rf (d : Nat) (v : AV) : Prop := ∀ f, d ≤ f → sameAV f v v = true
theorem Rf.mono {d e : Nat} {v : AV} (h : Rf d v) (hd : d ≤ e) : Rf e v := fun f hf => h f (Nat.le_trans hd hf)
/-- What is new in between may be written. -/
theorem Keeps.fresh {a b c : St} {p : Nat → Prop} {i : Nat} (h : Keeps a b p) (k : Keeps b c (· = i)) (hi : a.h ≤ i) : Keeps a c p :=
  ⟨k.ro.trans h.ro, Nat.le_trans h.h k.h, fun j o hj hg => k.old j o (fun e => by
    have := (St.get_ok.1 hg).1
    omega) (h.old j o hj hg)⟩
end Go.VM
/- What is left to do ends well: steps from the front. -/
namespace Go.VM
open Go

/-- It comes to something of which this is true. -/
def Goes {β : Type} (e : Option β) (Q : β → Prop) : Prop := ∃ b, e = some b ∧ Q b
section
variable {β : Type} {Q : β → Prop} {E : Env} {st : St}
theorem Goes.step {e e' : Option β} (h : e = e') (g : Goes e' Q) : Goes e Q := h ▸ g
theorem Goes.some {b : β} (h : Q b) : Goes (.some b) Q := ⟨b, rfl, h⟩
theorem Goes.mono {e : Option β} {Q' : β → Prop} (h : Goes e Q) (k : ∀ b, Q b → Q' b) : Goes e Q' := by
  obtain ⟨b, e, h⟩ := h
  exact ⟨b, e, k b h⟩
theorem Goes.bind {α : Type} {e : Option α} {R : α → Prop} {K : α → Option β} (h : Goes e R) (g : ∀ a, R a → Goes (K a) Q) : Goes (bindO e K) Q := by
  obtain ⟨a, e, h⟩ := h
  rw [e]
  exact g a h
theorem Goes.wide {F : FuncId} {args : List AV} {Q : AV × St → Prop} (h : Goes (wideS E F args st) Q) : Goes ((orc E).wide F args st) Q := by
  obtain ⟨b, e, h⟩ := h
  exact ⟨b, wide_of e, h⟩
theorem Goes.bare {F : FuncId} {args : List AV} {Q : AV → Prop} (hm : (E.memo F, (E.rule F).isSome) = ([], false)) (h : Goes (bareS E F args) Q) : Goes ((orc E).bare F args) Q := by
  obtain ⟨b, e, h⟩ := h
  exact ⟨b, bare_of hm e, h⟩
theorem Goes.one {v : AV} (h : VM.one v = true) {e : Option β} (g : Goes e Q) : Goes (asOne v e) Q := Goes.step (asOne_of h e) g
/-- A loop that ends by what gets less. -/
theorem Goes.loop {σ : Type} {F : σ → Option (Sum σ β)} {I : Nat → σ → Prop} (h : ∀ n s, I n s → Goes (F s) fun r => match r with
    | .inl s' => ∃ m, m < n ∧ I m s'
    | .inr b => Q b) : ∀ n s, I n s → Goes (loopO F s) Q := by
  intro n
  induction n using Nat.strongRecOn with
  | _ n ih =>
    intro s hs
    obtain ⟨r, e, hr⟩ := h n s hs
    cases r with
    | inl s' =>
      obtain ⟨m, hm, hi⟩ := hr
      rw [loopO_inl e]
      exact ih m hm s' hi
    | inr b => exact ⟨b, loopO_inr e, hr⟩
/-! Variables of a function. -/
abbrev Vrs := List (Nat × TypeId × List AV)
structure Vw (st : St) (l : Vrs) : Prop where
  v : ∀ q ∈ l, st.get q.1 = .ok (.cells q.2.1 q.2.2) ∧ st.ro ≤ q.1
  nd : (l.map (·.1)).Nodup
  ro : st.ro ≤ st.h
variable {l l1 l2 : Vrs}
theorem Vw.get (w : Vw st l) {a : Nat} {t : TypeId} {cs : List AV} (h : (a, t, cs) ∈ l) : st.get a = .ok (.cells t cs) := (w.v _ h).1
theorem Vw.sub {l' : Vrs} (w : Vw st l) (h : List.Sublist l' l) : Vw st l' := ⟨fun q hq => w.v q (h.subset hq), (h.map _).nodup w.nd, w.ro⟩
theorem Vw.alloc (w : Vw st l) (t : TypeId) (cs : List AV) : Vw (st.add (.cells t cs)) ((st.h, t, cs) :: l) := by
  refine ⟨fun q hq => ?_, ?_, Nat.le_succ_of_le w.ro⟩
  · rcases List.mem_cons.1 hq with rfl | hq
    · exact ⟨St.get_add_new, w.ro⟩
    · exact ⟨St.get_add_old (w.v q hq).1, (w.v q hq).2⟩
  · rw [List.map_cons, List.nodup_cons]
    refine ⟨fun hm => ?_, w.nd⟩
    obtain ⟨q, hq, e⟩ := List.mem_map.1 hm
    have h1 := (St.get_ok.1 (w.v q hq).1).1
    simp only at e
    omega
end
end Go.VM
