/-
  (A part of the proof: Utf, Utf2, Kit3, LexSpec.)
-/
import Derived.Test.YtjppooaadaepjaaDoorVmBE
import Derived.Test.YtjppooaadaepjaaDoorVmBA
import Derived.Lib.TrimUEq
import Derived.Lib.ValidU
import Derived.Lib.AtoiAll
/- UTF-8 by its bytes: how many bytes a character has; what is valid; how many characters. -/
namespace Go.VM
open Go.Lib

/-- How many bytes the character has that begins with these; 0: there is none. -/
def szN (n b0 b1 b2 b3 : Nat) : Nat :=
  if b0 < 128 then 1
  else if 194 ≤ b0 ∧ b0 ≤ 223 then (if n < 2 ∨ b1 < 128 ∨ 191 < b1 then 0 else 2)
  else if 224 ≤ b0 ∧ b0 ≤ 239 then (if n < 3 ∨ b1 < 128 ∨ 191 < b1 ∨ b2 < 128 ∨ 191 < b2 ∨ (b0 = 224 ∧ b1 < 160) ∨ (b0 = 237 ∧ 159 < b1) then 0 else 3)
  else if 240 ≤ b0 ∧ b0 ≤ 244 then (if n < 4 ∨ b1 < 128 ∨ 191 < b1 ∨ b2 < 128 ∨ 191 < b2 ∨ b3 < 128 ∨ 191 < b3 ∨ (b0 = 240 ∧ b1 < 144) ∨ (b0 = 244 ∧ 143 < b1) then 0 else 4)
  else 0
set_option maxHeartbeats 2000000 in
theorem szN_decode {n b0 b1 b2 b3 : Nat} (h0 : b0 < 256) (h1 : b1 < 256) (h2 : b2 < 256) (h3 : b3 < 256) :
    (szN n b0 b1 b2 b3 = 0 ∧ decodeN n b0 b1 b2 b3 = (65533, 1)) ∨ (szN n b0 b1 b2 b3 = 1 ∧ b0 < 128 ∧ decodeN n b0 b1 b2 b3 = (b0, 1)) ∨ (2 ≤ szN n b0 b1 b2 b3 ∧ (decodeN n b0 b1 b2 b3).2 = szN n b0 b1 b2 b3) := by
  by_cases c0 : b0 < 128
  · refine .inr (.inl ⟨?_, c0, ?_⟩)
    · unfold szN; rw [if_pos c0]
    · unfold decodeN; rw [if_pos c0]
  by_cases z : szN n b0 b1 b2 b3 = 0
  · refine .inl ⟨z, ?_⟩
    unfold szN at z
    unfold decodeN
    repeat' split
    all_goals first | rfl | (exfalso; (repeat' (split at z)); all_goals omega)
  · have hc : (szN n b0 b1 b2 b3 = 2 ∧ (194 ≤ b0 ∧ b0 ≤ 223) ∧ ¬ (n < 2 ∨ b1 < 128 ∨ 191 < b1)) ∨
        (szN n b0 b1 b2 b3 = 3 ∧ (224 ≤ b0 ∧ b0 ≤ 239) ∧ ¬ (n < 3 ∨ b1 < 128 ∨ 191 < b1 ∨ b2 < 128 ∨ 191 < b2 ∨ (b0 = 224 ∧ b1 < 160) ∨ (b0 = 237 ∧ 159 < b1))) ∨
        (szN n b0 b1 b2 b3 = 4 ∧ (240 ≤ b0 ∧ b0 ≤ 244) ∧ ¬ (n < 4 ∨ b1 < 128 ∨ 191 < b1 ∨ b2 < 128 ∨ 191 < b2 ∨ b3 < 128 ∨ 191 < b3 ∨ (b0 = 240 ∧ b1 < 144) ∨ (b0 = 244 ∧ 143 < b1))) := by
      unfold szN at z ⊢
      rw [if_neg c0] at z ⊢
      by_cases c1 : 194 ≤ b0 ∧ b0 ≤ 223
      · rw [if_pos c1] at z ⊢
        by_cases d : n < 2 ∨ b1 < 128 ∨ 191 < b1
        · rw [if_pos d] at z; omega
        · rw [if_neg d]; exact .inl ⟨rfl, c1, d⟩
      rw [if_neg c1] at z ⊢
      by_cases c2 : 224 ≤ b0 ∧ b0 ≤ 239
      · rw [if_pos c2] at z ⊢
        by_cases d : n < 3 ∨ b1 < 128 ∨ 191 < b1 ∨ b2 < 128 ∨ 191 < b2 ∨ (b0 = 224 ∧ b1 < 160) ∨ (b0 = 237 ∧ 159 < b1)
        · rw [if_pos d] at z; omega
        · rw [if_neg d]; exact .inr (.inl ⟨rfl, c2, d⟩)
      rw [if_neg c2] at z ⊢
      by_cases c3 : 240 ≤ b0 ∧ b0 ≤ 244
      · rw [if_pos c3] at z ⊢
        by_cases d : n < 4 ∨ b1 < 128 ∨ 191 < b1 ∨ b2 < 128 ∨ 191 < b2 ∨ b3 < 128 ∨ 191 < b3 ∨ (b0 = 240 ∧ b1 < 144) ∨ (b0 = 244 ∧ 143 < b1)
        · rw [if_pos d] at z; omega
        · rw [if_neg d]; exact .inr (.inr ⟨rfl, c3, d⟩)
      · rw [if_neg c3] at z; omega
    refine .inr (.inr ?_)
    rcases hc with ⟨e, c, d⟩ | ⟨e, c, d⟩ | ⟨e, c, d⟩
    all_goals
      rw [e]
      refine ⟨by omega, ?_⟩
      unfold decodeN
      repeat' split
      all_goals first | rfl | (exfalso; omega)
theorem szN_le {n b0 b1 b2 b3 : Nat} (h : 1 ≤ n) : szN n b0 b1 b2 b3 ≤ n := by
  unfold szN
  repeat' split
  all_goals omega
def szL (l : List UInt8) : Nat := szN l.length (l.getD 0 0).toNat (l.getD 1 0).toNat (l.getD 2 0).toNat (l.getD 3 0).toNat
theorem szL_decode (l : List UInt8) : (szL l = 0 ∧ decodeL l = (65533, 1)) ∨ (szL l = 1 ∧ (l.getD 0 0).toNat < 128 ∧ decodeL l = ((l.getD 0 0).toNat, 1)) ∨ (2 ≤ szL l ∧ (decodeL l).2 = szL l) := by
  unfold szL
  rw [decodeL_N]
  exact szN_decode (UInt8.toNat_lt _) (UInt8.toNat_lt _) (UInt8.toNat_lt _) (UInt8.toNat_lt _)
theorem szL_le {l : List UInt8} (h : l ≠ []) : szL l ≤ l.length := szN_le (List.length_pos_iff.2 h)
/-- Valid: character by character (so many of them at most). -/
def validF : Nat → List UInt8 → Bool
  | 0, _ => true
  | n + 1, l => if l = [] then true else if szL l = 0 then false else validF n (l.drop (szL l))
theorem validF_eq : ∀ (n : Nat) (l : List UInt8), validGoD n l = validF n l
  | 0, _ => rfl
  | n + 1, l => by
    unfold validGoD validF
    by_cases h : l = []
    · rw [if_pos h, if_pos h]
    rw [if_neg h, if_neg h]
    rcases szL_decode l with ⟨h1, h2⟩ | ⟨h1, h2, h3⟩ | ⟨h1, h2⟩
    · have hd : (decodeL l).1 = 65533 ∧ (decodeL l).2 = 1 := by rw [h2]; exact ⟨rfl, rfl⟩
      rw [if_pos hd, if_pos h1]
    · have hd : ¬ ((decodeL l).1 = 65533 ∧ (decodeL l).2 = 1) := by rw [h3]; show ¬ ((l.getD 0 0).toNat = 65533 ∧ _); omega
      have hz : ¬ szL l = 0 := by omega
      rw [if_neg hd, if_neg hz, h3, h1]; exact validF_eq n _
    · have hd : ¬ ((decodeL l).1 = 65533 ∧ (decodeL l).2 = 1) := by omega
      have hz : ¬ szL l = 0 := by omega
      rw [if_neg hd, if_neg hz, h2]; exact validF_eq n _
def validS (l : List UInt8) : Bool := validF l.length l
theorem validS_eq (l : List UInt8) : validD l = validS l := validF_eq _ _
theorem validF_fuel : ∀ (n m : Nat) (l : List UInt8), l.length ≤ n → l.length ≤ m → validF n l = validF m l
  | 0, 0, _, _, _ => rfl
  | 0, m + 1, l, h, _ => by
    have : l = [] := List.eq_nil_of_length_eq_zero (by omega)
    subst this
    simp [validF]
  | n + 1, 0, l, _, h => by
    have : l = [] := List.eq_nil_of_length_eq_zero (by omega)
    subst this
    simp [validF]
  | n + 1, m + 1, l, hn, hm => by
    unfold validF
    by_cases h : l = []
    · rw [if_pos h, if_pos h]
    rw [if_neg h, if_neg h]
    by_cases hz : szL l = 0
    · rw [if_pos hz, if_pos hz]
    · rw [if_neg hz, if_neg hz, validF_fuel n m _ (by rw [List.length_drop]; omega) (by rw [List.length_drop]; omega)]
theorem validS_step {l : List UInt8} (h : l ≠ []) : validS l = if szL l = 0 then false else validS (l.drop (szL l)) := by
  unfold validS
  have hl : 0 < l.length := List.length_pos_iff.2 h
  obtain ⟨n, hn⟩ : ∃ n, l.length = n + 1 := ⟨l.length - 1, by omega⟩
  rw [hn]
  show (if l = [] then true else _) = _
  rw [if_neg h]
  by_cases hz : szL l = 0
  · rw [if_pos hz, if_pos hz]
  · rw [if_neg hz, if_neg hz]
    exact validF_fuel _ _ _ (by rw [List.length_drop]; omega) (Nat.le_refl _)
/-- Does a character begin at a byte? -/
def isHead (b : UInt8) : Bool := decide (b.toNat < 128) || decide (b.toNat > 191)
def chars (s : List UInt8) : Nat := s.countP isHead
theorem chars_le (s : List UInt8) : chars s ≤ s.length := List.countP_le_length
theorem chars_append (s t : List UInt8) : chars (s ++ t) = chars s + chars t := List.countP_append
theorem szL_chars {l : List UInt8} (h : l ≠ []) (hz : szL l ≠ 0) : chars l = 1 + chars (l.drop (szL l)) := by
  have hle := szL_le h
  match l, h with
  | [b0], _ =>
    have h1 : szL [b0] = 1 := by simp only [List.length_singleton] at hle; omega
    have hb : b0.toNat < 128 := by
      rcases szL_decode [b0] with ⟨h2, _⟩ | ⟨_, h2, _⟩ | ⟨h2, _⟩
      · omega
      · exact h2
      · omega
    rw [h1]; simp [chars, isHead, hb]
  | b0 :: b1 :: l, _ =>
    unfold szL at hz hle ⊢
    unfold szN at hz hle ⊢
    simp only [List.getD_cons_zero, List.getD_cons_succ] at hz hle ⊢
    by_cases c0 : b0.toNat < 128
    · rw [if_pos c0]; simp [chars, isHead, c0, Nat.add_comm]
    rw [if_neg c0] at hz hle ⊢
    by_cases c1 : 194 ≤ b0.toNat ∧ b0.toNat ≤ 223
    · rw [if_pos c1] at hz hle ⊢
      by_cases d : (b0 :: b1 :: l).length < 2 ∨ b1.toNat < 128 ∨ 191 < b1.toNat
      · rw [if_pos d] at hz; omega
      rw [if_neg d]
      have e0 : isHead b0 = true := by simp only [isHead, Bool.or_eq_true, decide_eq_true_eq]; omega
      have e1 : isHead b1 = false := by simp only [isHead, Bool.or_eq_false_iff, decide_eq_false_iff_not]; omega
      simp [chars, e0, e1, Nat.add_comm]
    rw [if_neg c1] at hz hle ⊢
    match l with
    | [] =>
      exfalso
      simp only [List.length_cons, List.length_nil] at hz hle
      revert hz
      repeat' split
      all_goals omega
    | [b2] =>
      simp only [List.length_cons, List.length_nil, List.getD_cons_zero] at hz hle ⊢
      by_cases c2 : 224 ≤ b0.toNat ∧ b0.toNat ≤ 239
      · rw [if_pos c2] at hz hle ⊢
        by_cases d : 0 + 1 + 1 + 1 < 3 ∨ b1.toNat < 128 ∨ 191 < b1.toNat ∨ b2.toNat < 128 ∨ 191 < b2.toNat ∨ (b0.toNat = 224 ∧ b1.toNat < 160) ∨ (b0.toNat = 237 ∧ 159 < b1.toNat)
        · rw [if_pos d] at hz; omega
        rw [if_neg d]
        have e0 : isHead b0 = true := by simp only [isHead, Bool.or_eq_true, decide_eq_true_eq]; omega
        have e1 : isHead b1 = false := by simp only [isHead, Bool.or_eq_false_iff, decide_eq_false_iff_not]; omega
        have e2 : isHead b2 = false := by simp only [isHead, Bool.or_eq_false_iff, decide_eq_false_iff_not]; omega
        simp [chars, e0, e1, e2]
      rw [if_neg c2] at hz hle ⊢
      exfalso
      revert hz
      repeat' split
      all_goals omega
    | b2 :: b3 :: l =>
      simp only [List.getD_cons_zero, List.getD_cons_succ] at hz hle ⊢
      by_cases c2 : 224 ≤ b0.toNat ∧ b0.toNat ≤ 239
      · rw [if_pos c2] at hz hle ⊢
        by_cases d : (b0 :: b1 :: b2 :: b3 :: l).length < 3 ∨ b1.toNat < 128 ∨ 191 < b1.toNat ∨ b2.toNat < 128 ∨ 191 < b2.toNat ∨ (b0.toNat = 224 ∧ b1.toNat < 160) ∨ (b0.toNat = 237 ∧ 159 < b1.toNat)
        · rw [if_pos d] at hz; omega
        rw [if_neg d]
        have e0 : isHead b0 = true := by simp only [isHead, Bool.or_eq_true, decide_eq_true_eq]; omega
        have e1 : isHead b1 = false := by simp only [isHead, Bool.or_eq_false_iff, decide_eq_false_iff_not]; omega
        have e2 : isHead b2 = false := by simp only [isHead, Bool.or_eq_false_iff, decide_eq_false_iff_not]; omega
        simp [chars, e0, e1, e2, Nat.add_comm]
      rw [if_neg c2] at hz hle ⊢
      by_cases c3 : 240 ≤ b0.toNat ∧ b0.toNat ≤ 244
      · rw [if_pos c3] at hz hle ⊢
        by_cases d : (b0 :: b1 :: b2 :: b3 :: l).length < 4 ∨ b1.toNat < 128 ∨ 191 < b1.toNat ∨ b2.toNat < 128 ∨ 191 < b2.toNat ∨ b3.toNat < 128 ∨ 191 < b3.toNat ∨ (b0.toNat = 240 ∧ b1.toNat < 144) ∨ (b0.toNat = 244 ∧ 143 < b1.toNat)
        · rw [if_pos d] at hz; omega
        rw [if_neg d]
        have e0 : isHead b0 = true := by simp only [isHead, Bool.or_eq_true, decide_eq_true_eq]; omega
        have e1 : isHead b1 = false := by simp only [isHead, Bool.or_eq_false_iff, decide_eq_false_iff_not]; omega
        have e2 : isHead b2 = false := by simp only [isHead, Bool.or_eq_false_iff, decide_eq_false_iff_not]; omega
        have e3 : isHead b3 = false := by simp only [isHead, Bool.or_eq_false_iff, decide_eq_false_iff_not]; omega
        simp [chars, e0, e1, e2, e3, Nat.add_comm]
      · rw [if_neg c3] at hz; omega
end Go.VM
/- UTF-8: how many characters, by the library's count. -/
namespace Go.VM
open Go.Lib

theorem runes_from : ∀ (n : Nat) (s : ByteArray) (p : Nat), s.size ≤ p + n → validS (s.data.toList.drop p) = true → runeCountFrom s n p = chars (s.data.toList.drop p)
  | 0, s, p, h, _ => by
    have : s.data.toList.drop p = [] := List.drop_eq_nil_of_le (by rw [← size_eq]; omega)
    rw [this]; rfl
  | n + 1, s, p, h, hv => by
    unfold runeCountFrom
    by_cases hp : p < s.size
    · rw [if_pos hp]
      have hne : s.data.toList.drop p ≠ [] := by
        intro e
        have := congrArg List.length e
        rw [List.length_drop, ← size_eq] at this
        simp at this
        omega
      rw [validS_step hne] at hv
      by_cases hz : szL (s.data.toList.drop p) = 0
      · rw [if_pos hz] at hv; cases hv
      rw [if_neg hz, List.drop_drop] at hv
      have hw : (Utf8.decode s p).2 = szL (s.data.toList.drop p) := by
        rw [← decodeL_drop]
        rcases szL_decode (s.data.toList.drop p) with ⟨h1, _⟩ | ⟨h1, _, h2⟩ | ⟨_, h2⟩
        · exact absurd h1 hz
        · rw [h1, h2]
        · exact h2
      rw [hw, runes_from n s _ (by omega) hv, szL_chars hne hz, List.drop_drop]
    · rw [if_neg hp]
      have : s.data.toList.drop p = [] := List.drop_eq_nil_of_le (by rw [← size_eq]; omega)
      rw [this]; rfl
theorem runes_chars {l : List UInt8} (h : validS l = true) : runeCountL l = chars l := by
  have := runes_from l.length ⟨l.toArray⟩ 0 (by simp [ByteArray.size]) (by simpa using h)
  simpa [runeCountL, runeCount, ByteArray.size] using this

section
variable {β : Type} {O : Orc}
theorem planS_lib {f : List AV → Res AV} {args : List AV} {v : AV} (h : f args = .ok v) (st : St) (K : Kv β) : planS O (primP (.lib f) args) st K = K v st q0 := by
  simp only [planS, outS, primP, h, planO, bindO_ok]
theorem libRunes_ok {s : List UInt8} (h : s.length < 9223372036854775807) : libRunes [.str s] = .ok (.int .i64 (runeCountL s)) := by
  simp only [libRunes, blt_true.2 h]
theorem libValid_ok {s : List UInt8} (h : s.length ≤ 9223372036854775807) : libValid [.str s] = .ok (.bool (validS s)) := by
  simp only [libValid, Nat.ble_eq_true_of_le h, validS_eq]
theorem libRepeat_ok {s : List UInt8} {n : Nat} (h : s.length * n ≤ 140737488355328) (hn : n ≤ 9223372036854775807) : libRepeat [.str s, .int .i64 (n : Int)] = .ok (.str (repeatL s n)) := by
  show (match (s.length * n).ble 140737488355328 && n.ble 9223372036854775807 with | true => _ | false => _) = _
  rw [Nat.ble_eq_true_of_le h, Nat.ble_eq_true_of_le hn]; rfl
theorem indexByte_any (c : UInt8) : ∀ (s : List UInt8), decide (0 ≤ indexByte s c) = s.any fun b => b == c
  | [] => rfl
  | b :: l => by
    have ih := indexByte_any c l
    unfold indexByte
    rw [List.any_cons]
    cases b == c with
    | true => rfl
    | false =>
      rw [if_neg (by simp), Bool.false_or, ← ih]
      by_cases h : (indexByte l c == -1) = true
      · rw [if_pos h]
        have := eq_of_beq h
        rw [this]
      · rw [if_neg h]
        have hn : indexByte l c ≠ -1 := fun e => h (by rw [e]; rfl)
        by_cases h0 : 0 ≤ indexByte l c
        · rw [decide_eq_true h0, decide_eq_true (by omega)]
        · rw [decide_eq_false h0, decide_eq_false (by omega)]
theorem libContains_ok (s : List UInt8) (c : UInt8) : libContains [.str s, .str [c]] = .ok (.bool (s.any fun b => b == c)) := by
  simp only [libContains, indexByte_any]
theorem repeatL_one (c : UInt8) : ∀ (n : Nat), repeatL [c] n = List.replicate n c := fun n => by
  have := repeatL_replicate c 1 n
  simpa using this
end
end Go.VM
/- Small facts that walks of shallow forms want; slices that own their ends, side by side; bytes of a text. -/
namespace Go.VM
open Go

@[simp] theorem oneOf_one (v : AV) : oneOf [v] = v := id rfl
@[simp] theorem notNil_ip (cs : List AV) : notNil (.ip cs) = true := id rfl
@[simp] theorem notNil_mp (i o : Nat) : notNil (.mp i o) = true := id rfl
@[simp] theorem drop1 (a : AV) (l : List AV) : (a :: l).drop 1 = l := id rfl
@[simp] theorem drop2 (a b : AV) (l : List AV) : (a :: b :: l).drop 2 = l := id rfl
@[simp] theorem drop3 (a b c : AV) (l : List AV) : (a :: b :: c :: l).drop 3 = l := id rfl
@[simp] theorem drop4 (a b c d : AV) (l : List AV) : (a :: b :: c :: d :: l).drop 4 = l := id rfl
@[simp] theorem drop5 (a b c d e : AV) (l : List AV) : (a :: b :: c :: d :: e :: l).drop 5 = l := id rfl
@[simp] theorem takeO1 (a : AV) (l : List AV) : takeO 1 true (a :: l) = some (.agg [a]) := id rfl
@[simp] theorem takeO2 (a b : AV) (l : List AV) : takeO 2 true (a :: b :: l) = some (.agg [a, b]) := id rfl
@[simp] theorem takeO3 (a b c : AV) (l : List AV) : takeO 3 true (a :: b :: c :: l) = some (.agg [a, b, c]) := id rfl
@[simp] theorem takeO4 (a b c d : AV) (l : List AV) : takeO 4 true (a :: b :: c :: d :: l) = some (.agg [a, b, c, d]) := id rfl
@[simp] theorem cells_agg (cs : List AV) : AV.cells (.agg cs) = cs := id rfl
@[simp] theorem cells_str (s : List UInt8) : AV.cells (.str s) = [.str s] := id rfl
@[simp] theorem cells_int (k : IntKind) (n : Int) : AV.cells (.int k n) = [.int k n] := id rfl
@[simp] theorem cells_fn (f : Fn) (a b : List AV) : AV.cells (.fn f a b) = [.fn f a b] := id rfl
@[simp] theorem apart_made1 (i : Nat) (o : VM.Obj) : apart q0 ⟨[], .made i o⟩ = true := id rfl
@[simp] theorem apart_made2 (i : Nat) (o : VM.Obj) : apart ⟨[], .kept⟩ ⟨[], .made i o⟩ = true := id rfl
@[simp] theorem apart_wrote1 (i : Nat) (o : VM.Obj) : apart ⟨[], .kept⟩ ⟨[i], .wrote i o⟩ = true := id rfl
theorem wrapN {n : Nat} (h : n ≤ 9223372036854775807) : IntKind.wrap .i64 (n : Int) = (n : Int) := wrap_i64 (by omega) (by omega)
theorem wrapA {n m : Nat} (h : n + m ≤ 9223372036854775807) : IntKind.wrap .i64 ((n : Int) + (m : Int)) = ((n + m : Nat) : Int) := by rw [← Int.natCast_add]; exact wrapN h
theorem wrapA1 {n : Nat} (h : n + 1 ≤ 9223372036854775807) : IntKind.wrap .i64 ((n : Int) + 1) = ((n + 1 : Nat) : Int) := wrapA (m := 1) h
theorem wrapA2 {n : Nat} (h : n + 2 ≤ 9223372036854775807) : IntKind.wrap .i64 ((n : Int) + 2) = ((n + 2 : Nat) : Int) := wrapA (m := 2) h
theorem wrapS {n m : Nat} (h : m ≤ n) (hn : n ≤ 9223372036854775807) : IntKind.wrap .i64 ((n : Int) - (m : Int)) = ((n - m : Nat) : Int) := by rw [← wrapN (n := n - m) (by omega)]; congr 1; omega
theorem ble_of {a b : Nat} (h : a ≤ b) : Nat.ble a b = true := Nat.ble_eq_true_of_le h
theorem countL (s : List UInt8) (c : UInt8) : Lib.countByte s c = s.count c := rfl

/-! Slices that own their ends. -/
theorem own_keep {st st' : St} {z : Nat} {e : TypeId} {v : AV} {es : List AV} {but : Nat → Prop} (h : Own st z e v es) (k : Keeps st st' but) (hb : ∀ j, ownerOf v j → ¬ but j) : Own st' z e v es := by
  refine ⟨by rw [k.ro]; exact Nat.le_trans h.1 k.h, h.2.1, ?_⟩
  rcases h.2.2 with h | h | ⟨j, hv, hg, hr⟩
  · exact .inl h
  · exact .inr (.inl h)
  · exact .inr (.inr ⟨j, hv, k.old _ _ (hb j ⟨_, _, hv⟩) hg, by rw [k.ro]; exact hr⟩)
theorem own_two {st : St} {z z' : Nat} {e e' : TypeId} {v v' : AV} {es es' : List AV} (h : Own st z e v es) (h' : Own st z' e' v' es') (hne : e ≠ e') : ∀ j, ownerOf v j → ¬ ownerOf v' j := by
  rintro j ⟨y, l, rfl⟩ ⟨y', l', rfl⟩
  rcases h with ⟨_, _, ⟨h | h, _⟩ | h | ⟨k, h, hg, _⟩⟩
  · cases h
  · cases h
  · cases h
  · cases h
    rcases h' with ⟨_, _, ⟨h' | h', _⟩ | h' | ⟨k, h', hg', _⟩⟩
    · cases h'
    · cases h'
    · cases h'
    · cases h'
      rw [hg] at hg'
      simp only [Except.ok.injEq, VM.Obj.tok.injEq] at hg'
      exact hne hg'.2
theorem own_idx {st : St} {z : Nat} {e : TypeId} {x : AV} {es : List AV} (h : Own st z e x es) {k : Nat} {v : AV} (hk : es[k]? = some v) {β : Type} (st' : St) (K : AV → List Nat → Option β) : idxA z x (k : Int) st' K = K (.ip v.cells) [] := by
  have hlt : k < es.length := (List.getElem?_eq_some_iff.1 hk).1
  have hz : z.beq z = true := Nat.beq_refl z
  have hi : insideO (k : Int) es.length = some k := by
    show (match k.blt es.length with | true => some k | false => none) = _
    rw [blt_true.2 hlt]
  have hn : nthO es k = some v := nthO_of hk
  rcases h.2.2 with ⟨rfl | rfl, rfl⟩ | rfl | ⟨j, rfl, _⟩
  · simp at hlt
  · simp at hlt
  · simp only [idxA, idxO, hz, hi, hn, bindO_ok]
  · simp only [idxA, idxO, hz, hi, hn, bindO_ok]
theorem own_len {st : St} {z : Nat} {e : TypeId} {x : AV} {es : List AV} (h : Own st z e x es) {β : Type} (K : Nat → Option β) : lenS x K = K es.length := by
  rcases h.2.2 with ⟨rfl | rfl, rfl⟩ | rfl | ⟨k, rfl, _⟩ <;> rfl
theorem own_app {st : St} {z b : Nat} {e : TypeId} {v : AV} {es : List AV} (w : AV) (h : Own st z e v es) (hr : roomOk (es.length + 1) ⟨.other, z, b, [], false, false⟩ = true) :
    ∃ v' st', Own st' z e v' (es ++ [w]) ∧ Keeps st st' (ownerOf v) ∧ ∃ x, ∀ {β : Type} (K : Kv β), appS z b e v [w] st K = K v' st' x := by
  obtain ⟨v', st', x, e1, e2, e3, _⟩ := app_own (b := b) (new := [w]) h (by simp) hr
  exact ⟨v', st', e2, e3, x, fun K => appS_of e1 K⟩
theorem room_of {n z b : Nat} (hn : n ≤ 1000000000) (hb : b ≤ 1000) (hz : 1 ≤ z) : roomOk n ⟨.other, z, b, [], false, false⟩ = true := by
  have : n * b ≤ 1000000000 * 1000 := Nat.mul_le_mul hn hb
  simp only [roomOk, ble_of (show n * b ≤ 70368744177664 by omega), ble_of (show n ≤ 70368744177664 by omega), ble_of hz]; rfl
/-- Such a slice frozen among others. -/
theorem own_freeze {st : St} {z : Nat} {e : TypeId} {v : AV} {es : List AV} (h : Own st z e v es) : ∃ x, IsSl z x es ∧ ∀ n, freeze st 0 (n + 1) v = .ok x := by
  rcases h with ⟨_, hl, ⟨rfl | rfl, rfl⟩ | rfl | ⟨k, rfl, _, _⟩⟩
  · exact ⟨.nils, IsSl.nils, fun _ => rfl⟩
  · exact ⟨.es, IsSl.emp, fun _ => rfl⟩
  · exact ⟨.sl z es .shut, IsSl.shut hl, fun _ => rfl⟩
  · exact ⟨.sl z es .wide, IsSl.wide hl, fun _ => rfl⟩
/-- A pair of such a slice and what freezing leaves. -/
theorem frz_own2 {st : St} {z : Nat} {e : TypeId} {v u : AV} {es : List AV} (h : Own st z e v es) (hu : Fz 1 u) (hb : bare u = true) : ∃ x, IsSl z x es ∧ ∀ {β : Type} (K : AV → Option β), frzS st 0 (.tup [v, u]) K = K (.tup [x, u]) := by
  obtain ⟨x, hx, e1⟩ := own_freeze h
  refine ⟨x, hx, fun K => ?_⟩
  have e2 : freeze st 0 100 (.tup [v, u]) = .ok (.tup [x, u]) := by
    show (do pure (.tup (← allE (freeze st 0 99) [v, u])) : Res AV) = _
    have e3 : allE (freeze st 0 99) [v, u] = .ok [x, u] := by
      simp only [allE, e1 98, hu st 0 99 (by omega), ok_bind, pure_eq]
    rw [e3]; rfl
  have e3 : bare (.tup [x, u]) = true := by
    show (bare x && (bare u && true)) = true
    rw [hx.bare, hb]; rfl
  simp only [frzS, e2, e3, chk_true]
theorem byte_ne {c d : UInt8} (h : c ≠ d) : ¬ ((c.toNat : Nat) : Int) = (d.toNat : Int) := by
  intro k
  have : c.toNat = d.toNat := by omega
  exact h (UInt8.toNat_inj.1 this)
theorem getElem_of {s : List UInt8} {i : Nat} {c : UInt8} (hlt : i < s.length) (hg : s[i]? = some c) : s[i] = c := by
  have := List.getElem?_eq_getElem hlt
  rw [hg] at this; exact (Option.some.inj this).symm
end Go.VM
/- Tokens of a text, as plain functions. -/
namespace Go.Lex
open Go.VM

def wh (p : UInt8 → Bool) (s : List UInt8) : Nat := (s.takeWhile p).length
def isBlank (b : UInt8) : Bool := b == 32 || b == 9 || b == 10 || b == 13
def isLow (b : UInt8) : Bool := (decide (97 ≤ b.toNat) && decide (b.toNat ≤ 122)) || b == 95
def isDig (b : UInt8) : Bool := decide (48 ≤ b.toNat) && decide (b.toNat ≤ 57)
def isBeh (b : UInt8) : Bool := isLow b || isDig b || (decide (65 ≤ b.toNat) && decide (b.toNat ≤ 90)) || b == 39
/-- Where a remark ends, so many being open. -/
def rem : List UInt8 → Nat → Option Nat
  | [], _ => none
  | [_], _ => none
  | a :: b :: l, d =>
    if a = 40 ∧ b = 42 then (rem l (d + 1)).map (· + 2)
    else if a = 42 ∧ b = 41 then (if d = 1 then some 2 else (rem l (d - 1)).map (· + 2))
    else (rem (b :: l) d).map (· + 1)
def words : List (List UInt8) := [[108, 101, 116], [114, 101, 99], [105, 110], [102, 117, 110], [105, 102], [116, 104, 101, 110], [101, 108, 115, 101], [109, 97, 116, 99, 104], [119, 105, 116, 104], [116, 114, 117, 101], [102, 97, 108, 115, 101], [109, 111, 100]]
def nameK (w : List UInt8) : Nat := if w = [95] then 8 else if words.contains w then 3 else 4
def stepV (a : Nat) (c : UInt8) : Nat := a * 10 + (c.toNat - 48)
def numV (acc : Nat) (l : List UInt8) : Nat := l.foldl stepV acc
theorem numV_nil (a : Nat) : numV a [] = a := id rfl
theorem numV_cons (a : Nat) (c : UInt8) (l : List UInt8) : numV a (c :: l) = numV (stepV a c) l := id rfl
def isSgn (c : UInt8) : Bool := c == 43 || c == 45
def sgn : List UInt8 → Nat
  | c :: _ => if isSgn c then 1 else 0
  | [] => 0
/-- An exponent behind a Float's digits: how many bytes, and its value. -/
def expo (s : List UInt8) : Nat × Int :=
  match s with
  | [] => (0, 0)
  | e :: l =>
    if e = 101 ∨ e = 69 then
      let d := wh isDig (l.drop (sgn l))
      if d = 0 then (0, 0)
      else
        let x : Int := ((min (numV 0 ((l.drop (sgn l)).take d)) 1000000 : Nat) : Int)
        (1 + sgn l + d, if l.head? = some 45 then -x else x)
    else (0, 0)
/-- A number: its kind and how many bytes. -/
def number (s : List UInt8) : Nat × Nat :=
  let n := wh isDig s
  if (s.drop n).head? = some 46 then
    let k := wh isDig (s.drop (n + 1))
    let x := expo (s.drop (n + 1 + k))
    (if n + k > 15 ∨ x.2 - (k : Int) < -22 ∨ x.2 - (k : Int) > 22 then 9 else 6, n + 1 + k + x.1)
  else (5, n)
/-- What is left of a Bad text: up to its quote, or its line's end. -/
def badT : List UInt8 → Nat
  | [] => 0
  | c :: l => if c = 10 then 0 else if c = 34 then 1 else badT l + 1
def isEsc (c : UInt8) : Bool := c == 110 || c == 116 || c == 92 || c == 34
/-- A text behind its quote: its kind and how many bytes. -/
def txt : List UInt8 → Nat × Nat
  | [] => (9, 0)
  | [c] => if c = 10 then (9, 0) else if c = 34 then (7, 1) else (9, 1)
  | c :: d :: l =>
    if c = 10 then (9, 0) else if c = 34 then (7, 1)
    else if c = 92 then (if isEsc d then ((txt l).1, (txt l).2 + 2) else (9, badT (d :: l) + 1))
    else ((txt (d :: l)).1, (txt (d :: l)).2 + 1)
def twos : List (List UInt8) := [[45, 62], [58, 58], [60, 62], [60, 61], [62, 61], [43, 46], [45, 46], [42, 46], [47, 46], [38, 38], [124, 124]]
def ones1 : List UInt8 := [40, 41, 91, 93, 44, 59, 124, 61, 60, 62, 43, 45, 42, 47, 94, 64]
def isOne (c : UInt8) : Bool := ones1.contains c
/-- The token that a text begins with: its kind, and how many bytes. -/
def cut (s : List UInt8) : Nat × Nat :=
  match s with
  | [] => (9, 0)
  | c :: l =>
    if isBlank c then (1, wh isBlank s)
    else if s.take 2 = [40, 42] then (match rem (s.drop 2) 1 with | some n => (2, n + 2) | none => (9, s.length))
    else if isLow c then (nameK (s.takeWhile isBeh), wh isBeh s)
    else if isDig c then number s
    else if c = 34 then ((txt l).1, (txt l).2 + 1)
    else if twos.contains (s.take 2) then (8, 2)
    else if isOne c then (8, 1)
    else (9, if szL s = 0 then 1 else szL s)
/-- A text's tokens. -/
def toks : Nat → List UInt8 → List (Nat × List UInt8)
  | 0, _ => []
  | n + 1, s => match s with
    | [] => []
    | _ :: _ => ((cut s).1, s.take (cut s).2) :: toks n (s.drop (cut s).2)
def tokens (s : List UInt8) : List (Nat × List UInt8) := toks s.length s

theorem wh_le (p : UInt8 → Bool) (s : List UInt8) : wh p s ≤ s.length := (List.takeWhile_sublist p).length_le
theorem wh_take (p : UInt8 → Bool) (s : List UInt8) : s.take (wh p s) = s.takeWhile p := by
  unfold wh
  induction s with
  | nil => rfl
  | cons c l ih =>
    rw [List.takeWhile_cons]
    split
    · simp [ih]
    · simp
theorem wh_drop (p : UInt8 → Bool) (s : List UInt8) : s.drop (wh p s) = s.dropWhile p := by
  unfold wh
  induction s with
  | nil => rfl
  | cons c l ih =>
    rw [List.takeWhile_cons, List.dropWhile_cons]
    split
    · simp [ih]
    · simp
theorem wh_len (p : UInt8 → Bool) (s : List UInt8) : s.length = wh p s + (s.dropWhile p).length := by
  rw [← wh_drop, List.length_drop]
  have := wh_le p s
  omega
theorem wh_cons (p : UInt8 → Bool) (c : UInt8) (l : List UInt8) : wh p (c :: l) = if p c = true then wh p l + 1 else 0 := by
  unfold wh
  rw [List.takeWhile_cons]
  split <;> simp
theorem rem_le : ∀ (s : List UInt8) (d n : Nat), rem s d = some n → 2 ≤ n ∧ n ≤ s.length
  | [], _, _, h => by simp [rem] at h
  | [_], _, _, h => by simp [rem] at h
  | a :: b :: l, d, n, h => by
    simp only [rem] at h
    split at h
    · obtain ⟨m, hm, rfl⟩ := Option.map_eq_some_iff.1 h
      have := rem_le l (d + 1) m hm
      simp; omega
    · split at h
      · split at h
        · cases h; simp
        · obtain ⟨m, hm, rfl⟩ := Option.map_eq_some_iff.1 h
          have := rem_le l (d - 1) m hm
          simp; omega
      · obtain ⟨m, hm, rfl⟩ := Option.map_eq_some_iff.1 h
        have := rem_le (b :: l) d m hm
        simp at this ⊢; omega
theorem badT_le : ∀ (s : List UInt8), badT s ≤ s.length
  | [] => Nat.le_refl _
  | c :: l => by
    have := badT_le l
    simp only [badT]
    split
    · omega
    · split
      · simp
      · simp; exact this
theorem txt_le : ∀ (s : List UInt8), (txt s).2 ≤ s.length
  | [] => Nat.le_refl _
  | [c] => by
    simp only [txt]
    split
    · simp
    · split <;> simp
  | c :: d :: l => by
    have h1 := txt_le l
    have h2 := txt_le (d :: l)
    have h3 := badT_le (d :: l)
    simp only [txt, List.length_cons] at *
    split
    · simp
    · split
      · simp
      · split
        · split
          · simp; omega
          · simp; omega
        · simp; omega
theorem sgn_le (l : List UInt8) : sgn l ≤ l.length := by
  cases l with
  | nil => exact Nat.le_refl _
  | cons c l => simp only [sgn]; split <;> simp
theorem expo_le (s : List UInt8) : (expo s).1 ≤ s.length := by
  unfold expo
  cases s with
  | nil => simp
  | cons e l =>
    dsimp only
    split
    · have hg := sgn_le l
      have hd := wh_le isDig (l.drop (sgn l))
      rw [List.length_drop] at hd
      split
      · simp
      · simp only [List.length_cons]; omega
    · simp
theorem number_le (s : List UInt8) (h : 1 ≤ wh isDig s) : 1 ≤ (number s).2 ∧ (number s).2 ≤ s.length := by
  unfold number
  have h1 := wh_le isDig s
  dsimp only
  split
  · rename_i hd
    have hlt : wh isDig s < s.length := by
      rcases Nat.lt_or_ge (wh isDig s) s.length with q | q
      · exact q
      · rw [List.drop_of_length_le q] at hd; cases hd
    have h2 := wh_le isDig (s.drop (wh isDig s + 1))
    rw [List.length_drop] at h2
    have h3 := expo_le (s.drop (wh isDig s + 1 + wh isDig (s.drop (wh isDig s + 1))))
    rw [List.length_drop] at h3
    dsimp only
    omega
  · exact ⟨h, h1⟩
theorem cut_le {s : List UInt8} (h : s ≠ []) : 1 ≤ (cut s).2 ∧ (cut s).2 ≤ s.length := by
  cases s with
  | nil => exact absurd rfl h
  | cons c l =>
    unfold cut
    dsimp only
    split
    · rename_i hb
      exact ⟨by rw [wh_cons, if_pos hb]; omega, wh_le _ _⟩
    split
    · rename_i h2
      have hl : 2 ≤ (c :: l).length := by
        have := congrArg List.length h2
        rw [List.length_take] at this
        simp at this
        simp; omega
      cases hr : rem (List.drop 2 (c :: l)) 1 with
      | some n =>
        have := rem_le _ _ _ hr
        rw [List.length_drop] at this
        dsimp only; omega
      | none => dsimp only; omega
    split
    · rename_i hb
      have hb' : isBeh c = true := by unfold isBeh; rw [hb]; rfl
      exact ⟨by rw [wh_cons, if_pos hb']; omega, wh_le _ _⟩
    split
    · rename_i hb
      exact number_le _ (by rw [wh_cons, if_pos hb]; omega)
    split
    · have := txt_le l
      simp; omega
    split
    · rename_i h2
      have hl : 2 ≤ (c :: l).length := by
        rcases Nat.lt_or_ge (c :: l).length 2 with q | q
        · exfalso
          have : l = [] := by
            cases l with
            | nil => rfl
            | cons d l => simp at q; omega
          subst this
          simp [twos] at h2
        · exact q
      dsimp only; omega
    split
    · simp
    · have := szL_le (l := c :: l) (by simp)
      dsimp only
      split
      · simp
      · omega
theorem toks_fuel : ∀ (n m : Nat) (s : List UInt8), s.length ≤ n → s.length ≤ m → toks n s = toks m s
  | 0, 0, _, _, _ => rfl
  | 0, m + 1, s, h, _ => by
    have : s = [] := List.eq_nil_of_length_eq_zero (by omega)
    subst this; rfl
  | n + 1, 0, s, _, h => by
    have : s = [] := List.eq_nil_of_length_eq_zero (by omega)
    subst this; rfl
  | n + 1, m + 1, [], _, _ => rfl
  | n + 1, m + 1, c :: l, hn, hm => by
    have hc := cut_le (s := c :: l) (by simp)
    simp only [toks]
    rw [toks_fuel n m ((c :: l).drop (cut (c :: l)).2) (by rw [List.length_drop]; omega) (by rw [List.length_drop]; omega)]
theorem tokens_cons {s : List UInt8} (h : s ≠ []) : tokens s = ((cut s).1, s.take (cut s).2) :: tokens (s.drop (cut s).2) := by
  cases s with
  | nil => exact absurd rfl h
  | cons c l =>
    have hc := cut_le (s := c :: l) (by simp)
    show toks (l.length + 1) (c :: l) = _
    simp only [toks]
    congr 1
    exact toks_fuel _ _ _ (by rw [List.length_drop]; simp at hc ⊢; omega) (Nat.le_refl _)
theorem tokens_nil : tokens [] = [] := rfl
end Go.Lex
