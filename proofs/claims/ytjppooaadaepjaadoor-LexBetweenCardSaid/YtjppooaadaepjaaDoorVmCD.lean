/-
  (A part of the proof: LexG, LexH, LexI, LexJ, LexK, LexL, LexM, LexP, LexArg.)
-/
import Derived.Test.YtjppooaadaepjaaDoorVmCC
import Derived.Test.YtjppooaadaepjaaDoorVmBG
import Derived.Test.YtjppooaadaepjaaDoorVmBA
import Derived.Test.YtjppooaadaepjaaDoorVmBJ
/- Tokens: the reference's ways to cut. -/
set_option maxRecDepth 100000
set_option linter.unusedSimpArgs false
namespace Go.Proofs.YtjppooaadaepjaaDoor.Vm
open Go Go.VM Go.Proofs Go.Lex

theorem at_nil {s : List UInt8} {n : Nat} (h : s.drop n = []) : s.getD n 0 = 0 := by
  have := List.drop_eq_nil_iff.1 h
  rw [List.getD_eq_getElem?_getD, List.getElem?_eq_none this]; rfl
theorem at_cons {s l : List UInt8} {n : Nat} {c : UInt8} (h : s.drop n = c :: l) : s.getD n 0 = c := by
  rw [List.getD_eq_getElem?_getD, (drop_cons h).1]; rfl
theorem at_ok (s : List UInt8) (i : Nat) : (orc vE).bare 40 [.str s, .int .i64 (i : Int)] = some (.int .u8 ((s.getD i 0).toNat : Int)) := by
  refine bare_of rfl ((g40_eq _ _).trans ?_)
  have q : ¬ (i : Int) < 0 := by omega
  by_cases h : i < s.length
  · have h' : ¬ (i : Int) ≥ (s.length : Int) := by omega
    have e : s.getD i 0 = s[i] := by rw [List.getD_eq_getElem?_getD, List.getElem?_eq_getElem h]; rfl
    rw [e]
    simp only [g40, asS_str, asI_int, ifB_decide, if_neg q, if_neg h', bindO_ok, unc_cons, asB_bool, un0_nil, idxStr_nat h]
  · have h' : (i : Int) ≥ (s.length : Int) := by omega
    have e : s.getD i 0 = 0 := by rw [List.getD_eq_getElem?_getD, List.getElem?_eq_none (by omega)]; rfl
    rw [e]
    simp only [g40, asS_str, asI_int, ifB_decide, if_neg q, if_pos h', bindO_ok, unc_cons, asB_bool, un0_nil]
    rfl
theorem call_at {β : Type} (s : List UInt8) (i : Nat) (st : St) (K : Kv β) : callS (orc vE) 40 [.str s, .int .i64 (i : Int)] st K = K (.int .u8 ((s.getD i 0).toNat : Int)) st q0 := callS_bare st K rfl rfl rfl (at_ok s i)
theorem byte_beq (c d : UInt8) : ((c.toNat : Int) == (d.toNat : Int)) = (c == d) := by
  by_cases h : c = d
  · subst h; simp
  · rw [beq_eq_false_iff_ne.2 h, beq_eq_false_iff_ne.2 (byte_ne h)]
theorem rblank (c : UInt8) : (orc vE).bare 39 [.int .u8 (c.toNat : Int)] = some (.bool (isBlank c)) := by
  refine bare_of rfl ((g39_eq _).trans ?_)
  have b1 : ((c.toNat : Int) == 32) = (c == 32) := byte_beq c 32
  have b2 : ((c.toNat : Int) == 9) = (c == 9) := byte_beq c 9
  have b3 : ((c.toNat : Int) == 10) = (c == 10) := byte_beq c 10
  have b4 : ((c.toNat : Int) == 13) = (c == 13) := byte_beq c 13
  simp only [g39, asI_int, b1, b2, b3, b4, isBlank]
  cases c == 32 <;> cases c == 9 <;> cases c == 10 <;> rfl
theorem rlow (c : UInt8) : (orc vE).bare 43 [.int .u8 (c.toNat : Int)] = some (.bool (isLow c)) := by
  refine bare_of rfl ((g43_eq _).trans ?_)
  have b1 : decide ((c.toNat : Int) ≥ 97) = decide (97 ≤ c.toNat) := decide_eq_decide.2 (by omega)
  have b2 : decide ((c.toNat : Int) ≤ 122) = decide (c.toNat ≤ 122) := decide_eq_decide.2 (by omega)
  have b3 : ((c.toNat : Int) == 95) = (c == 95) := byte_beq c 95
  simp only [g43, asI_int, b1, b2, b3, isLow]
  cases decide (97 ≤ c.toNat) <;> cases decide (c.toNat ≤ 122) <;> rfl
theorem rdigit (c : UInt8) : (orc vE).bare 46 [.int .u8 (c.toNat : Int)] = some (.bool (isDig c)) := by
  refine bare_of rfl ((g46_eq _).trans ?_)
  have b1 : decide ((c.toNat : Int) ≥ 48) = decide (48 ≤ c.toNat) := decide_eq_decide.2 (by omega)
  have b2 : decide ((c.toNat : Int) ≤ 57) = decide (c.toNat ≤ 57) := decide_eq_decide.2 (by omega)
  simp only [g46, asI_int, b1, b2, isDig]
  cases decide (48 ≤ c.toNat) <;> cases decide (c.toNat ≤ 57) <;> rfl
theorem call_rblank {β : Type} (c : UInt8) (st : St) (K : Kv β) : callS (orc vE) 39 [.int .u8 (c.toNat : Int)] st K = K (.bool (isBlank c)) st q0 := callS_bare st K rfl rfl rfl (rblank c)
theorem call_rlow {β : Type} (c : UInt8) (st : St) (K : Kv β) : callS (orc vE) 43 [.int .u8 (c.toNat : Int)] st K = K (.bool (isLow c)) st q0 := callS_bare st K rfl rfl rfl (rlow c)
theorem call_rdigit {β : Type} (c : UInt8) (st : St) (K : Kv β) : callS (orc vE) 46 [.int .u8 (c.toNat : Int)] st K = K (.bool (isDig c)) st q0 := callS_bare st K rfl rfl rfl (rdigit c)
theorem rbehind (c : UInt8) : (orc vE).bare 44 [.int .u8 (c.toNat : Int)] = some (.bool (isBeh c)) := by
  refine bare_of rfl ((g44_eq _).trans ?_)
  have b1 : decide ((c.toNat : Int) ≥ 65) = decide (65 ≤ c.toNat) := decide_eq_decide.2 (by omega)
  have b2 : decide ((c.toNat : Int) ≤ 90) = decide (c.toNat ≤ 90) := decide_eq_decide.2 (by omega)
  have b3 : ((c.toNat : Int) == 39) = (c == 39) := byte_beq c 39
  simp only [g44, asI_int, b1, b2, b3, call_rlow, call_rdigit, asB_bool, isBeh]
  cases isLow c <;> cases isDig c <;> cases decide (65 ≤ c.toNat) <;> cases decide (c.toNat ≤ 90) <;> rfl
theorem call_rbehind {β : Type} (c : UInt8) (st : St) (K : Kv β) : callS (orc vE) 44 [.int .u8 (c.toNat : Int)] st K = K (.bool (isBeh c)) st q0 := callS_bare st K rfl rfl rfl (rbehind c)
theorem rhas {s t : List UInt8} {i : Nat} (ht : t.length = 2) (hi : i ≤ 1000000) : (orc vE).bare 41 [.str s, .int .i64 (i : Int), .str t] = some (.bool ((s.drop i).take 2 == t)) := by
  refine bare_of rfl ((g41_eq _ _ _).trans ?_)
  by_cases h : i + 2 ≤ s.length
  · have h' : ((i + 2 : Nat) : Int) ≤ (s.length : Int) := by omega
    have e : (s.take (i + 2)).drop i = (s.drop i).take 2 := by rw [List.drop_take]; congr 1; omega
    simp only [g41, asS_str, asI_int, letV_eq, wrapA2 (show i + 2 ≤ 9223372036854775807 by omega), ifB_decide, if_pos h', uptoS_nat h, uptoS_nat (show i ≤ i + 2 by omega), e, bindO_ok, unc_cons, asB_bool, un0_nil]
  · have h' : ¬ ((i + 2 : Nat) : Int) ≤ (s.length : Int) := by omega
    have e : ((s.drop i).take 2 == t) = false := by
      rw [beq_eq_false_iff_ne]
      intro e
      have := congrArg List.length e
      rw [List.length_take, List.length_drop, ht] at this
      omega
    simp only [g41, asS_str, asI_int, letV_eq, wrapA2 (show i + 2 ≤ 9223372036854775807 by omega), ifB_decide, if_neg h', e, bindO_ok, unc_cons, asB_bool, un0_nil]
theorem call_has {β : Type} (s : List UInt8) {t : List UInt8} {i : Nat} (ht : t.length = 2) (hi : i ≤ 1000000) (st : St) (K : Kv β) : callS (orc vE) 41 [.str s, .int .i64 (i : Int), .str t] st K = K (.bool ((s.drop i).take 2 == t)) st q0 := callS_bare st K rfl rfl rfl (rhas ht hi)
theorem call_has0 {β : Type} (s : List UInt8) {t : List UInt8} (ht : t.length = 2) (st : St) (K : Kv β) : callS (orc vE) 41 [.str s, .int .i64 0, .str t] st K = K (.bool (s.take 2 == t)) st q0 := call_has s (i := 0) ht (by omega) st K

/-- A loop that counts bytes. -/
theorem wh_loop {p : UInt8 → Bool} {L : Car → Option (Car ⊕ Nat × Car)} {s : List UInt8} {st : St} (hp : p 0 = false)
    (h1 : ∀ n : Nat, n < s.length → p (s.getD n 0) = true → L ([.int .i64 (n : Int)], st) = some (.inl ([.int .i64 ((n + 1 : Nat) : Int)], st)))
    (h0 : ∀ n : Nat, p (s.getD n 0) = false → L ([.int .i64 (n : Int)], st) = some (.inr (0, [.int .i64 (n : Int)], st))) :
    ∀ (l : List UInt8) (n : Nat), s.drop n = l → loopO L ([.int .i64 (n : Int)], st) = some (0, [.int .i64 ((n + wh p l : Nat) : Int)], st)
  | [], n, hd => by
    rw [loopO_inr (h0 n (by rw [at_nil hd]; exact hp))]; rfl
  | c :: l, n, hd => by
    obtain ⟨_, hr, hlt⟩ := drop_cons hd
    have ha := at_cons hd
    rw [wh_cons]
    cases hc : p c with
    | true =>
      rw [loopO_inl (h1 n hlt (by rw [ha]; exact hc)), wh_loop hp h1 h0 l (n + 1) hr]
      simp only [if_true]
      rw [show n + 1 + wh p l = n + (wh p l + 1) by omega]
    | false =>
      rw [loopO_inr (h0 n (by rw [ha]; exact hc))]; rfl
section
variable {s : List UInt8} (hs : s.length ≤ 1000000) (st : St) {l : List UInt8} {n : Nat} (hd : s.drop n = l)
include hs hd
theorem num_loop1 : loopO (g47_L1 s) ([.int .i64 (n : Int)], st) = some (0, [.int .i64 ((n + wh isDig l : Nat) : Int)], st) := by
  refine wh_loop (p := isDig) rfl (fun n hn h => ?_) (fun n h => ?_) l n hd
  · simp only [g47_L1, unc_cons, asI_int, un0_nil, call_at, call_rdigit, h, asB_bool, ifB_true, letV_eq, wrapA1 (show n + 1 ≤ 9223372036854775807 by omega)]
  · simp only [g47_L1, unc_cons, asI_int, un0_nil, call_at, call_rdigit, h, asB_bool, ifB_false]
theorem num_loop2 : loopO (g47_L2 s) ([.int .i64 (n : Int)], st) = some (0, [.int .i64 ((n + wh isDig l : Nat) : Int)], st) := by
  refine wh_loop (p := isDig) rfl (fun n hn h => ?_) (fun n h => ?_) l n hd
  · simp only [g47_L2, unc_cons, asI_int, un0_nil, call_at, call_rdigit, h, asB_bool, ifB_true, letV_eq, wrapA1 (show n + 1 ≤ 9223372036854775807 by omega)]
  · simp only [g47_L2, unc_cons, asI_int, un0_nil, call_at, call_rdigit, h, asB_bool, ifB_false]
theorem cut_loop1 : loopO (g27_L1 s) ([.int .i64 (n : Int)], st) = some (0, [.int .i64 ((n + wh isBlank l : Nat) : Int)], st) := by
  refine wh_loop (p := isBlank) rfl (fun n hn h => ?_) (fun n h => ?_) l n hd
  · simp only [g27_L1, unc_cons, asI_int, un0_nil, call_at, call_rblank, h, asB_bool, ifB_true, letV_eq, wrapA1 (show n + 1 ≤ 9223372036854775807 by omega)]
  · simp only [g27_L1, unc_cons, asI_int, un0_nil, call_at, call_rblank, h, asB_bool, ifB_false]
theorem cut_loop2 : loopO (g27_L2 s) ([.int .i64 (n : Int)], st) = some (0, [.int .i64 ((n + wh isBeh l : Nat) : Int)], st) := by
  refine wh_loop (p := isBeh) rfl (fun n hn h => ?_) (fun n h => ?_) l n hd
  · simp only [g27_L2, unc_cons, asI_int, un0_nil, call_at, call_rbehind, h, asB_bool, ifB_true, letV_eq, wrapA1 (show n + 1 ≤ 9223372036854775807 by omega)]
  · simp only [g27_L2, unc_cons, asI_int, un0_nil, call_at, call_rbehind, h, asB_bool, ifB_false]
end
/-- A power, never above a million. -/
def stepC (a : Nat) (c : UInt8) : Nat := min (stepV a c) 1000000
def numC (a : Nat) (l : List UInt8) : Nat := l.foldl stepC a
theorem numC_nil (a : Nat) : numC a [] = a := id rfl
theorem numC_cons (a : Nat) (c : UInt8) (l : List UInt8) : numC a (c :: l) = numC (stepC a c) l := id rfl
theorem numC_min : ∀ (l : List UInt8) (a : Nat), numC (min a 1000000) l = min (numV a l) 1000000
  | [], a => by rw [numC_nil, numV_nil]
  | c :: l, a => by
    rw [numC_cons, numV_cons, ← numC_min l (stepV a c)]
    congr 1
    unfold stepC stepV
    omega
theorem pow_loop {s : List UInt8} (hs : s.length ≤ 1000000) (st : St) : ∀ (l : List UInt8) (n a : Nat), s.drop n = l → a ≤ 1000000 →
    loopO (g47_L3 s) ([.int .i64 (a : Int), .int .i64 (n : Int)], st) = some (0, [.int .i64 (numC a (l.take (wh isDig l)) : Int), .int .i64 ((n + wh isDig l : Nat) : Int)], st)
  | [], n, a, hd, ha => by
    have h : isDig (s.getD n 0) = false := by rw [at_nil hd]; rfl
    refine loopO_inr ?_
    simp only [g47_L3, unc_cons, asI_int, un0_nil, call_at, call_rdigit, h, asB_bool, ifB_false]
    rfl
  | c :: l, n, a, hd, ha => by
    obtain ⟨hg, hr, hlt⟩ := drop_cons hd
    have hat := at_cons hd
    rw [wh_cons]
    cases hc : isDig c with
    | false =>
      have h : isDig (s.getD n 0) = false := by rw [hat]; exact hc
      refine loopO_inr ?_
      simp only [g47_L3, unc_cons, asI_int, un0_nil, call_at, call_rdigit, h, asB_bool, ifB_false]
      rfl
    | true =>
      have h : isDig (s.getD n 0) = true := by rw [hat]; exact hc
      have hcc : 48 ≤ c.toNat ∧ c.toNat ≤ 57 := by
        simpa only [isDig, Bool.and_eq_true, decide_eq_true_eq] using hc
      have he : s[n] = c := getElem_of hlt hg
      have w1 : IntKind.wrap .i64 ((a : Int) * 10) = ((a * 10 : Nat) : Int) := wrapN (n := a * 10) (by omega)
      have w2 : IntKind.wrap .i64 ((c.toNat : Nat) : Int) = ((c.toNat : Nat) : Int) := wrapN (by omega)
      have w3 : IntKind.wrap .i64 (((a * 10 : Nat) : Int) + ((c.toNat : Nat) : Int)) = ((a * 10 + c.toNat : Nat) : Int) := wrapA (by omega)
      have w4 : IntKind.wrap .i64 (((a * 10 + c.toNat : Nat) : Int) - 48) = ((a * 10 + c.toNat - 48 : Nat) : Int) := wrapS (m := 48) (by omega) (by omega)
      have w5 : (if (1000000 : Int) < ((a * 10 + c.toNat - 48 : Nat) : Int) then (1000000 : Int) else ((a * 10 + c.toNat - 48 : Nat) : Int)) = (stepC a c : Int) := by
        unfold stepC stepV
        split <;> omega
      have hb : stepC a c ≤ 1000000 := by unfold stepC; omega
      rw [loopO_inl (s' := ([.int .i64 (stepC a c : Int), .int .i64 ((n + 1 : Nat) : Int)], st)), pow_loop hs st l (n + 1) _ hr hb]
      · simp only [if_true, List.take_succ_cons, numC_cons]
        rw [show n + 1 + wh isDig l = n + (wh isDig l + 1) by omega]
      · simp only [g47_L3, unc_cons, asI_int, un0_nil, call_at, call_rdigit, h, asB_bool, ifB_true, letV_eq, w1, idxStr_nat hlt, he, w2, w3, w4, w5, wrapA1 (show n + 1 ≤ 9223372036854775807 by omega)]
theorem rremark_loop (s : List UInt8) (hs : s.length ≤ 1000000) (st : St) : ∀ (l : List UInt8) (i d : Nat), s.drop i = l → i ≤ s.length → 1 ≤ d → d ≤ i →
    loopO (g42_L1 s) ([.int .i64 (d : Int), .int .i64 0, .bool false, .int .i64 (i : Int)], st) = some (match rem l d with | some n => (1, [.int .i64 ((i + n : Nat) : Int), .bool true], st) | none => (0, [.int .i64 0, .bool false], st))
  | [], i, d, hd, hi, h1, h2 => by
    have := List.drop_eq_nil_iff.1 hd
    have q : ¬ (i : Int) < (s.length : Int) := by omega
    refine loopO_inr ?_
    simp only [g42_L1, unc_cons, asI_int, asB_bool, un0_nil, ifB_decide, if_neg q]
    rfl
  | [a], i, d, hd, hi, h1, h2 => by
    obtain ⟨hg, hr, hlt⟩ := drop_cons hd
    have q : (i : Int) < (s.length : Int) := by omega
    have ih := rremark_loop s hs st [] (i + 1) d hr (by omega) h1 (by omega)
    rw [loopO_inl (s' := ([.int .i64 (d : Int), .int .i64 0, .bool false, .int .i64 ((i + 1 : Nat) : Int)], st)), ih]
    · rfl
    · simp only [g42_L1, unc_cons, asI_int, un0_nil, ifB_decide, if_pos q, call_has s (t := [40, 42]) rfl (show i ≤ 1000000 by omega), call_has s (t := [42, 41]) rfl (show i ≤ 1000000 by omega), hd, asB_bool]
      simp only [show ([a].take 2 == [(40 : UInt8), 42]) = false by simp, show ([a].take 2 == [(42 : UInt8), 41]) = false by simp, ifB_false, letV_eq, bindO_ok, onSum_inl, unc_cons, asI_int, asB_bool, un0_nil, wrapA1 (show i + 1 ≤ 9223372036854775807 by omega)]
  | a :: b :: l, i, d, hd, hi, h1, h2 => by
    obtain ⟨hg, hr, hlt⟩ := drop_cons hd
    obtain ⟨hg2, hr2, hlt2⟩ := drop_cons hr
    have q : (i : Int) < (s.length : Int) := by omega
    have t1 : ((a :: b :: l).take 2 == [40, 42]) = (decide (a = 40 ∧ b = 42)) := by
      show ([a, b] == [40, 42]) = _
      by_cases h : a = 40 ∧ b = 42
      · rw [h.1, h.2]; rfl
      · rw [decide_eq_false h, beq_eq_false_iff_ne]
        intro e
        simp only [List.cons.injEq, and_true] at e
        exact h e
    have t2 : ((a :: b :: l).take 2 == [42, 41]) = (decide (a = 42 ∧ b = 41)) := by
      show ([a, b] == [42, 41]) = _
      by_cases h : a = 42 ∧ b = 41
      · rw [h.1, h.2]; rfl
      · rw [decide_eq_false h, beq_eq_false_iff_ne]
        intro e
        simp only [List.cons.injEq, and_true] at e
        exact h e
    by_cases c1 : a = 40 ∧ b = 42
    · have ih := rremark_loop s hs st l (i + 2) (d + 1) hr2 (by omega) (by omega) (by omega)
      rw [loopO_inl (s' := ([.int .i64 ((d + 1 : Nat) : Int), .int .i64 0, .bool false, .int .i64 ((i + 2 : Nat) : Int)], st)), ih]
      · simp only [rem, if_pos c1]
        cases rem l (d + 1) with
        | none => rfl
        | some n => simp only [Option.map_some]; rw [show i + 2 + n = i + (n + 2) by omega]
      · simp only [g42_L1, unc_cons, asI_int, un0_nil, ifB_decide, if_pos q, call_has s (t := [40, 42]) rfl (show i ≤ 1000000 by omega), hd, t1, if_pos c1, asB_bool, letV_eq, bindO_ok, onSum_inl, wrapA1 (show d + 1 ≤ 9223372036854775807 by omega), wrapA2 (show i + 2 ≤ 9223372036854775807 by omega)]
    · by_cases c2 : a = 42 ∧ b = 41
      · have w := wrapS (n := d) (m := 1) h1 (by omega)
        have w : IntKind.wrap .i64 ((d : Int) - 1) = ((d - 1 : Nat) : Int) := w
        by_cases c3 : d = 1
        · subst c3
          simp only [rem, if_neg c1, if_pos c2, if_true]
          refine loopO_inr ?_
          simp only [g42_L1, unc_cons, asI_int, un0_nil, ifB_decide, if_pos q, call_has s (t := [40, 42]) rfl (show i ≤ 1000000 by omega), call_has s (t := [42, 41]) rfl (show i ≤ 1000000 by omega), hd, t1, t2, if_neg c1, if_pos c2, asB_bool, letV_eq, bindO_ok, w, wrapA2 (show i + 2 ≤ 9223372036854775807 by omega), ifB_beq]
          rfl
        · have ih := rremark_loop s hs st l (i + 2) (d - 1) hr2 (by omega) (by omega) (by omega)
          have z : ¬ ((d - 1 : Nat) : Int) = 0 := by omega
          rw [loopO_inl (s' := ([.int .i64 ((d - 1 : Nat) : Int), .int .i64 0, .bool false, .int .i64 ((i + 2 : Nat) : Int)], st)), ih]
          · simp only [rem, if_neg c1, if_pos c2, if_neg c3]
            cases rem l (d - 1) with
            | none => rfl
            | some n => simp only [Option.map_some]; rw [show i + 2 + n = i + (n + 2) by omega]
          · simp only [g42_L1, unc_cons, asI_int, un0_nil, ifB_decide, if_pos q, call_has s (t := [40, 42]) rfl (show i ≤ 1000000 by omega), call_has s (t := [42, 41]) rfl (show i ≤ 1000000 by omega), hd, t1, t2, if_neg c1, if_pos c2, asB_bool, letV_eq, bindO_ok, w, wrapA2 (show i + 2 ≤ 9223372036854775807 by omega), ifB_beq, if_neg z, onSum_inl]
      · have ih := rremark_loop s hs st (b :: l) (i + 1) d hr (by omega) h1 (by omega)
        rw [loopO_inl (s' := ([.int .i64 (d : Int), .int .i64 0, .bool false, .int .i64 ((i + 1 : Nat) : Int)], st)), ih]
        · simp only [rem, if_neg c1, if_neg c2]
          cases rem (b :: l) d with
          | none => rfl
          | some n => simp only [Option.map_some]; rw [show i + 1 + n = i + (n + 1) by omega]
        · simp only [g42_L1, unc_cons, asI_int, un0_nil, ifB_decide, if_pos q, call_has s (t := [40, 42]) rfl (show i ≤ 1000000 by omega), call_has s (t := [42, 41]) rfl (show i ≤ 1000000 by omega), hd, t1, t2, if_neg c1, if_neg c2, asB_bool, letV_eq, bindO_ok, onSum_inl, wrapA1 (show i + 1 ≤ 9223372036854775807 by omega)]
theorem rremark_ok {s : List UInt8} (hs : s.length ≤ 1000000) (h2 : 2 ≤ s.length) : (orc vE).bare 42 [.str s] = some (match rem (s.drop 2) 1 with | some n => .tup [.int .i64 ((n + 2 : Nat) : Int), .bool true] | none => .tup [.int .i64 (s.length : Int), .bool false]) := by
  refine bare_of rfl ((g42_eq _).trans ?_)
  have e : loopO (g42_L1 s) ([.int .i64 1, .int .i64 0, .bool false, .int .i64 2], St.mk 0 0 Tr.leaf) = _ := rremark_loop s hs (St.mk 0 0 Tr.leaf) (s.drop 2) 2 1 rfl h2 (by omega) (by omega)
  simp only [g42, asS_str]
  rw [e]
  cases rem (s.drop 2) 1 with
  | none => simp only [bindO_ok, unc_cons, asI_int, asB_bool, un0_nil, sel2_zero]
  | some n => simp only [bindO_ok, unc_cons, asI_int, asB_bool, un0_nil, sel2_one]; rw [Nat.add_comm 2 n]
end Go.Proofs.YtjppooaadaepjaaDoor.Vm
/- Tokens: the reference's texts, numbers, cut. -/
set_option maxRecDepth 100000
set_option linter.unusedSimpArgs false
namespace Go.Proofs.YtjppooaadaepjaaDoor.Vm
open Go Go.VM Go.Proofs Go.Lex

/-- How a text's loop ends. -/
def Ends (st : St) (r : Option (Nat × Car)) (p : Nat × Nat) : Prop :=
  (∃ c : Int, r = some (1, [.int .u8 (p.1 : Int), .int .i64 (p.2 : Int), .int .i64 c], st)) ∨ (p.1 = 9 ∧ r = some (0, [.int .u8 0, .int .i64 0, .int .i64 (p.2 : Int)], st))
theorem bad_loop {s : List UInt8} (hs : s.length ≤ 1000000) (st : St) : ∀ (l : List UInt8) (i : Nat), s.drop i = l → i ≤ s.length →
    Ends st (loopO (g48_L1 s) ([.int .u8 0, .int .i64 0, .bool true, .int .i64 (i : Int)], st)) (9, i + badT l)
  | [], i, hd, hi => by
    have := List.drop_eq_nil_iff.1 hd
    have q : ¬ (i : Int) < (s.length : Int) := by omega
    refine .inr ⟨rfl, loopO_inr ?_⟩
    simp only [g48_L1, unc_cons, asI_int, asB_bool, un0_nil, ifB_decide, if_neg q, bindO_ok, ifB_false]
    rfl
  | c :: l, i, hd, hi => by
    obtain ⟨hg, hr, hlt⟩ := drop_cons hd
    have q : (i : Int) < (s.length : Int) := by omega
    have hc : s[i] = c := getElem_of hlt hg
    have b1 : ((c.toNat : Int) != 10) = (c != 10) := by unfold bne; rw [show ((c.toNat : Int) == 10) = (c == 10) from byte_beq c 10]
    have b2 : ((c.toNat : Int) == 34) = (c == 34) := byte_beq c 34
    have b3 : ((c.toNat : Int) == 92) = (c == 92) := byte_beq c 92
    by_cases c1 : c = 10
    · have z : (c != 10) = false := by simp [c1]
      simp only [badT, if_pos c1]
      refine .inr ⟨rfl, loopO_inr ?_⟩
      simp only [g48_L1, unc_cons, asI_int, asB_bool, un0_nil, ifB_decide, if_pos q, idxStr_nat hlt, hc, b1, z, bindO_ok, ifB_false]
      rfl
    · have z : (c != 10) = true := by simp [c1]
      by_cases c2 : c = 34
      · have z2 : (c == 34) = true := by simp [c2]
        simp only [badT, if_neg c1, if_pos c2]
        refine .inl ⟨(i : Int), loopO_inr ?_⟩
        simp only [g48_L1, unc_cons, asI_int, asB_bool, un0_nil, ifB_decide, if_pos q, idxStr_nat hlt, hc, b1, b2, z, z2, bindO_ok, ifB_true, letV_eq, wrapA1 (show i + 1 ≤ 9223372036854775807 by omega)]
        rfl
      · have z2 : (c == 34) = false := by simp [c2]
        have ih := bad_loop hs st l (i + 1) hr (by omega)
        rw [loopO_inl (s' := ([.int .u8 0, .int .i64 0, .bool true, .int .i64 ((i + 1 : Nat) : Int)], st))]
        · simp only [badT, if_neg c1, if_neg c2]
          rw [show i + (badT l + 1) = i + 1 + badT l by omega]
          exact ih
        · simp only [g48_L1, unc_cons, asI_int, asB_bool, un0_nil, ifB_decide, if_pos q, idxStr_nat hlt, hc, b1, b2, b3, z, z2, bindO_ok, ifB_true, ifB_false, letV_eq, Bool.not_true]
          cases c == 92 <;> simp only [ifB_true, ifB_false, bindO_ok, unc_cons, asB_bool, asI_int, un0_nil, letV_eq, wrapA1 (show i + 1 ≤ 9223372036854775807 by omega)]
theorem rtext_loop {s : List UInt8} (hs : s.length ≤ 1000000) (st : St) : ∀ (l : List UInt8) (i : Nat), s.drop i = l → i ≤ s.length →
    Ends st (loopO (g48_L1 s) ([.int .u8 0, .int .i64 0, .bool false, .int .i64 (i : Int)], st)) ((txt l).1, i + (txt l).2)
  | [], i, hd, hi => by
    have := List.drop_eq_nil_iff.1 hd
    have q : ¬ (i : Int) < (s.length : Int) := by omega
    refine .inr ⟨rfl, loopO_inr ?_⟩
    simp only [g48_L1, unc_cons, asI_int, asB_bool, un0_nil, ifB_decide, if_neg q, bindO_ok, ifB_false]
    rfl
  | [c], i, hd, hi => by
    obtain ⟨hg, hr, hlt⟩ := drop_cons hd
    have q : (i : Int) < (s.length : Int) := by omega
    have hc : s[i] = c := getElem_of hlt hg
    have b1 : ((c.toNat : Int) != 10) = (c != 10) := by unfold bne; rw [show ((c.toNat : Int) == 10) = (c == 10) from byte_beq c 10]
    have b2 : ((c.toNat : Int) == 34) = (c == 34) := byte_beq c 34
    have b3 : ((c.toNat : Int) == 92) = (c == 92) := byte_beq c 92
    by_cases c1 : c = 10
    · have z : (c != 10) = false := by simp [c1]
      simp only [txt, if_pos c1]
      refine .inr ⟨rfl, loopO_inr ?_⟩
      simp only [g48_L1, unc_cons, asI_int, asB_bool, un0_nil, ifB_decide, if_pos q, idxStr_nat hlt, hc, b1, z, bindO_ok, ifB_false]
      rfl
    · have z : (c != 10) = true := by simp [c1]
      by_cases c2 : c = 34
      · have z2 : (c == 34) = true := by simp [c2]
        simp only [txt, if_neg c1, if_pos c2]
        refine .inl ⟨(i : Int), loopO_inr ?_⟩
        simp only [g48_L1, unc_cons, asI_int, asB_bool, un0_nil, ifB_decide, if_pos q, idxStr_nat hlt, hc, b1, b2, z, z2, bindO_ok, ifB_true, ifB_false, letV_eq, wrapA1 (show i + 1 ≤ 9223372036854775807 by omega)]
        rfl
      · have z2 : (c == 34) = false := by simp [c2]
        simp only [txt, if_neg c1, if_neg c2]
        cases hb : c == 92 with
        | true =>
          rw [loopO_inl (s' := ([.int .u8 0, .int .i64 0, .bool true, .int .i64 ((i + 1 : Nat) : Int)], st))]
          · exact bad_loop hs st [] (i + 1) hr (by omega)
          · have ha := at_nil hr
            have e : (((0 : UInt8).toNat : Nat) : Int) = 0 := rfl
            simp only [g48_L1, unc_cons, asI_int, asB_bool, un0_nil, ifB_decide, if_pos q, idxStr_nat hlt, hc, b1, b2, b3, z, z2, hb, bindO_ok, ifB_true, ifB_false, letV_eq, Bool.not_false, wrapA1 (show i + 1 ≤ 9223372036854775807 by omega), call_at, ha, e]
            simp only [show ((0 : Int) == 110) = false from rfl, show ((0 : Int) == 116) = false from rfl, show ((0 : Int) == 92) = false from rfl, show ((0 : Int) == 34) = false from rfl, ifB_false, bindO_ok, unc_cons, asB_bool, asI_int, un0_nil, letV_eq, wrapA1 (show i + 1 ≤ 9223372036854775807 by omega)]
        | false =>
          rw [loopO_inl (s' := ([.int .u8 0, .int .i64 0, .bool false, .int .i64 ((i + 1 : Nat) : Int)], st))]
          · exact rtext_loop hs st [] (i + 1) hr (by omega)
          · simp only [g48_L1, unc_cons, asI_int, asB_bool, un0_nil, ifB_decide, if_pos q, idxStr_nat hlt, hc, b1, b2, b3, z, z2, hb, bindO_ok, ifB_true, ifB_false, letV_eq, wrapA1 (show i + 1 ≤ 9223372036854775807 by omega)]
  | c :: d :: l, i, hd, hi => by
    obtain ⟨hg, hr, hlt⟩ := drop_cons hd
    obtain ⟨hg2, hr2, hlt2⟩ := drop_cons hr
    have q : (i : Int) < (s.length : Int) := by omega
    have hc : s[i] = c := getElem_of hlt hg
    have b1 : ((c.toNat : Int) != 10) = (c != 10) := by unfold bne; rw [show ((c.toNat : Int) == 10) = (c == 10) from byte_beq c 10]
    have b2 : ((c.toNat : Int) == 34) = (c == 34) := byte_beq c 34
    have b3 : ((c.toNat : Int) == 92) = (c == 92) := byte_beq c 92
    by_cases c1 : c = 10
    · have z : (c != 10) = false := by simp [c1]
      simp only [txt, if_pos c1]
      refine .inr ⟨rfl, loopO_inr ?_⟩
      simp only [g48_L1, unc_cons, asI_int, asB_bool, un0_nil, ifB_decide, if_pos q, idxStr_nat hlt, hc, b1, z, bindO_ok, ifB_false]
      rfl
    · have z : (c != 10) = true := by simp [c1]
      by_cases c2 : c = 34
      · have z2 : (c == 34) = true := by simp [c2]
        simp only [txt, if_neg c1, if_pos c2]
        refine .inl ⟨(i : Int), loopO_inr ?_⟩
        simp only [g48_L1, unc_cons, asI_int, asB_bool, un0_nil, ifB_decide, if_pos q, idxStr_nat hlt, hc, b1, b2, z, z2, bindO_ok, ifB_true, ifB_false, letV_eq, wrapA1 (show i + 1 ≤ 9223372036854775807 by omega)]
        rfl
      · have z2 : (c == 34) = false := by simp [c2]
        simp only [txt, if_neg c1, if_neg c2]
        cases hb : c == 92 with
        | true =>
          have hb' : c = 92 := eq_of_beq hb
          simp only [if_pos hb']
          have ha := at_cons hr
          have d1 : ((d.toNat : Int) == 110) = (d == 110) := byte_beq d 110
          have d2 : ((d.toNat : Int) == 116) = (d == 116) := byte_beq d 116
          have d3 : ((d.toNat : Int) == 92) = (d == 92) := byte_beq d 92
          have d4 : ((d.toNat : Int) == 34) = (d == 34) := byte_beq d 34
          have esc : ∀ (st : St) {β : Type} (K : List AV × St → Option β), (bindO (ifB (d == 110) (some ([AV.bool true], st)) (ifB (d == 116) (some ([AV.bool true], st)) (ifB (d == 92) (some ([AV.bool true], st)) (some ([AV.bool (d == 34)], st))))) K) = K ([AV.bool (isEsc d)], st) := by
            intro st β K
            unfold isEsc
            cases d == 110 <;> cases d == 116 <;> cases d == 92 <;> rfl
          cases he : isEsc d with
          | true =>
            simp only [if_true]
            rw [loopO_inl (s' := ([.int .u8 0, .int .i64 0, .bool false, .int .i64 ((i + 2 : Nat) : Int)], st)), show i + ((txt l).2 + 2) = i + 2 + (txt l).2 by omega]
            · exact rtext_loop hs st l (i + 2) hr2 (by omega)
            · simp only [g48_L1, unc_cons, asI_int, asB_bool, un0_nil, ifB_decide, if_pos q, idxStr_nat hlt, hc, b1, b2, b3, z, z2, hb, bindO_ok, ifB_true, ifB_false, letV_eq, Bool.not_false, wrapA1 (show i + 1 ≤ 9223372036854775807 by omega), call_at, ha, d1, d2, d3, d4, esc, he, wrapA1 (show i + 1 + 1 ≤ 9223372036854775807 by omega)]
          | false =>
            simp only [Bool.false_eq_true, if_false]
            rw [loopO_inl (s' := ([.int .u8 0, .int .i64 0, .bool true, .int .i64 ((i + 1 : Nat) : Int)], st)), show i + (badT (d :: l) + 1) = i + 1 + badT (d :: l) by omega]
            · exact bad_loop hs st (d :: l) (i + 1) hr (by omega)
            · simp only [g48_L1, unc_cons, asI_int, asB_bool, un0_nil, ifB_decide, if_pos q, idxStr_nat hlt, hc, b1, b2, b3, z, z2, hb, bindO_ok, ifB_true, ifB_false, letV_eq, Bool.not_false, wrapA1 (show i + 1 ≤ 9223372036854775807 by omega), call_at, ha, d1, d2, d3, d4, esc, he]
        | false =>
          have hb' : ¬ c = 92 := by simpa using hb
          simp only [if_neg hb']
          rw [loopO_inl (s' := ([.int .u8 0, .int .i64 0, .bool false, .int .i64 ((i + 1 : Nat) : Int)], st)), show i + ((txt (d :: l)).2 + 1) = i + 1 + (txt (d :: l)).2 by omega]
          · exact rtext_loop hs st (d :: l) (i + 1) hr (by omega)
          · simp only [g48_L1, unc_cons, asI_int, asB_bool, un0_nil, ifB_decide, if_pos q, idxStr_nat hlt, hc, b1, b2, b3, z, z2, hb, bindO_ok, ifB_true, ifB_false, letV_eq, wrapA1 (show i + 1 ≤ 9223372036854775807 by omega)]
theorem rtext_ok {c : UInt8} {l : List UInt8} (hs : (c :: l).length ≤ 1000000) : (orc vE).bare 48 [.str (c :: l)] = some (.tup [.int .u8 ((txt l).1 : Int), .int .i64 (((txt l).2 + 1 : Nat) : Int)]) := by
  refine bare_of rfl ((g48_eq _).trans ?_)
  have e := rtext_loop hs (St.mk 0 0 Tr.leaf) l 1 rfl (by simp)
  rw [Nat.add_comm 1 (txt l).2] at e
  simp only [g48, asS_str]
  rcases e with ⟨x, e⟩ | ⟨h9, e⟩
  · have e : loopO (g48_L1 (c :: l)) ([.int .u8 0, .int .i64 0, .bool false, .int .i64 1], St.mk 0 0 Tr.leaf) = _ := e
    rw [e]
    simp only [bindO_ok, unc_cons, asI_int, un0_nil, sel2_one]
  · have e : loopO (g48_L1 (c :: l)) ([.int .u8 0, .int .i64 0, .bool false, .int .i64 1], St.mk 0 0 Tr.leaf) = _ := e
    have h9 : (txt l).1 = 9 := h9
    rw [e, h9]
    simp only [bindO_ok, unc_cons, asI_int, un0_nil, sel2_zero]
    rfl
end Go.Proofs.YtjppooaadaepjaaDoor.Vm
/- Tokens: the reference's numbers, cut. -/
set_option maxRecDepth 100000
set_option linter.unusedSimpArgs false
namespace Go.Proofs.YtjppooaadaepjaaDoor.Vm
open Go Go.VM Go.Proofs Go.Lex

theorem head_at (s : List UInt8) (n : Nat) (d : UInt8) (hd : d ≠ 0) : (s.getD n 0 == d) = decide ((s.drop n).head? = some d) := by
  cases h : s.drop n with
  | nil =>
    rw [at_nil h]
    simp
    exact fun e => hd e.symm
  | cons c l =>
    rw [at_cons h]
    by_cases e : c = d
    · subst e; simp
    · rw [beq_eq_false_iff_ne.2 e]
      simp [e]
/-- What the reference makes of an exponent. -/
theorem rexpo {s : List UInt8} (hs : s.length ≤ 1000000) (e : Nat) (pw : Int) (hp : -2000000 ≤ pw) (hp2 : pw ≤ 2000000) (he : e ≤ s.length) {β : Type} (st : St) (K : Car → Option β) :
    (bindO (callS (orc vE) 40 [AV.str s, AV.int .i64 (e : Int)] st fun v43 st44 _x => asI .u8 v43 fun n46 => ifB (n46 == 101) (some
 ([AV.bool true], st44)) (callS (orc vE) 40 [AV.str s, AV.int .i64 (e : Int)] st44 fun v47 st48 _x => asI .u8 v47 fun n50 => some ([AV.bool (n50 == 69)], st48))) fun c51 => unc (Prod.fst c51) fun v52 l53 => asB v52 fun b54 =>
 un0 l53 (bindO (ifB b54 (letV (IntKind.wrap .i64 ((e : Int) + 1)) fun n55 => callS (orc vE) 40 [AV.str s, AV.int .i64 n55] (Prod.snd c51) fun v56 st57 _x => asI .u8 v56 fun n59 => bindO (ifB (n59 == 45) (some ([AV.bool
 true], st57)) (callS (orc vE) 40 [AV.str s, AV.int .i64 n55] st57 fun v60 st61 _x => asI .u8 v60 fun n63 => some ([AV.bool (n63 == 43)], st61))) fun c64 => unc (Prod.fst c64) fun v65 l66 => asB v65 fun b67 => un0 l66
 (bindO (ifB b67 (letV (IntKind.wrap .i64 (n55 + 1)) fun n68 => some ([AV.int .i64 n68], Prod.snd c64)) (some ([AV.int .i64 n55], Prod.snd c64))) fun c69 => unc (Prod.fst c69) fun v70 l71 => asI .i64 v70 fun n72 => un0
 l71 (bindO (loopO (g47_L3 s) ([AV.int .i64 0, AV.int .i64 n72], Prod.snd c69)) fun c95 => unc (Prod.fst (Prod.snd c95)) fun v96 l97 => asI .i64 v96 fun n98 => unc l97 fun v99 l100 => asI .i64 v99 fun n101 => un0 l100
 (bindO (ifB (decide (n101 > n72)) (bindO (ifB (n59 == 45) (letV (IntKind.wrap .i64 (0 - n98)) fun n102 => some ([AV.int .i64 n102], Prod.snd (Prod.snd c95))) (some ([AV.int .i64 n98], Prod.snd (Prod.snd c95)))) fun c103
 => unc (Prod.fst c103) fun v104 l105 => asI .i64 v104 fun n106 => un0 l105 (letV (IntKind.wrap .i64 (pw + n106)) fun n107 => some ([AV.int .i64 n101, AV.int .i64 n107], Prod.snd c103))) (some ([AV.int .i64 (e : Int), AV.int .i64
 pw], Prod.snd (Prod.snd c95)))) fun c108 => unc (Prod.fst c108) fun v109 l110 => asI .i64 v109 fun n111 => unc l110 fun v112 l113 => asI .i64 v112 fun n114 => un0 l113 (some ([AV.int .i64 n111, AV.int .i64 n114],
 Prod.snd c108)))))) (some ([AV.int .i64 (e : Int), AV.int .i64 pw], Prod.snd c51))) K)) = K ([.int .i64 ((e + (expo (s.drop e)).1 : Nat) : Int), .int .i64 (pw + (expo (s.drop e)).2)], st) := by
  have a1 : ((((s.getD e 0).toNat : Nat) : Int) == 101) = (s.getD e 0 == 101) := byte_beq _ 101
  have a2 : ((((s.getD e 0).toNat : Nat) : Int) == 69) = (s.getD e 0 == 69) := byte_beq _ 69
  have w1 := wrapA1 (show e + 1 ≤ 9223372036854775807 by omega)
  have a3 : ((((s.getD (e + 1) 0).toNat : Nat) : Int) == 45) = (s.getD (e + 1) 0 == 45) := byte_beq _ 45
  have a4 : ((((s.getD (e + 1) 0).toNat : Nat) : Int) == 43) = (s.getD (e + 1) 0 == 43) := byte_beq _ 43
  have isE : ∀ (st : St) {γ : Type} (K : List AV × St → Option γ), bindO (ifB (s.getD e 0 == 101) (some ([AV.bool true], st)) (some ([AV.bool (s.getD e 0 == 69)], st))) K = K ([AV.bool (s.getD e 0 == 101 || s.getD e 0 == 69)], st) := by
    intro st γ K
    cases s.getD e 0 == 101 <;> rfl
  have isS : ∀ (st : St) {γ : Type} (K : List AV × St → Option γ), bindO (ifB (s.getD (e + 1) 0 == 45) (some ([AV.bool true], st)) (some ([AV.bool (s.getD (e + 1) 0 == 43)], st))) K = K ([AV.bool (isSgn (s.getD (e + 1) 0))], st) := by
    intro st γ K
    unfold isSgn
    cases s.getD (e + 1) 0 == 45 <;> cases s.getD (e + 1) 0 == 43 <;> rfl
  simp only [call_at, asI_int, a1, a2, isE, unc_cons, asB_bool, un0_nil]
  cases hd : s.drop e with
  | nil =>
    rw [at_nil hd]
    simp only [show ((0 : UInt8) == 101 || (0 : UInt8) == 69) = false from rfl, ifB_false, bindO_ok, expo]
    simp
  | cons c l =>
    obtain ⟨hg, hr, hlt⟩ := drop_cons hd
    rw [at_cons hd]
    by_cases hc : c = 101 ∨ c = 69
    · have hc' : (c == 101 || c == 69) = true := by simpa using hc
      have hsg : sgn l = if isSgn (s.getD (e + 1) 0) = true then 1 else 0 := by
        cases l with
        | nil => rw [at_nil hr]; rfl
        | cons d r => rw [at_cons hr]; rfl
      have hsl := sgn_le l
      have hll : l.length = s.length - (e + 1) := by rw [← hr, List.length_drop]
      have hmi : (s.getD (e + 1) 0 == 45) = decide (l.head? = some 45) := by rw [head_at s (e + 1) 45 (by decide), hr]
      have sg : ∀ (st : St) {γ : Type} (K : List AV × St → Option γ), bindO (ifB (isSgn (s.getD (e + 1) 0)) (some ([AV.int .i64 ((e + 1 + 1 : Nat) : Int)], st)) (some ([AV.int .i64 ((e + 1 : Nat) : Int)], st))) K = K ([AV.int .i64 ((e + 1 + sgn l : Nat) : Int)], st) := by
        intro st γ K
        rw [hsg]
        cases isSgn (s.getD (e + 1) 0) <;> rfl
      have hd2 : s.drop (e + 1 + sgn l) = l.drop (sgn l) := by rw [← hr, List.drop_drop]
      have lp := fun st => pow_loop hs st (l.drop (sgn l)) (e + 1 + sgn l) 0 hd2 (by omega)
      have lp : ∀ st, loopO (g47_L3 s) ([.int .i64 0, .int .i64 ((e + 1 + sgn l : Nat) : Int)], st) = _ := lp
      simp only [hc', ifB_true, letV_eq, w1, call_at, asI_int, a3, a4, isS, unc_cons, asB_bool, un0_nil, wrapA1 (show e + 1 + 1 ≤ 9223372036854775807 by omega), sg, lp, bindO_ok]
      have hx : numC 0 ((l.drop (sgn l)).take (wh isDig (l.drop (sgn l)))) = min (numV 0 ((l.drop (sgn l)).take (wh isDig (l.drop (sgn l))))) 1000000 := numC_min _ 0
      simp only [expo, if_pos hc]
      by_cases hz : wh isDig (l.drop (sgn l)) = 0
      · have q : ¬ (((e + 1 + sgn l + wh isDig (l.drop (sgn l)) : Nat) : Int) > ((e + 1 + sgn l : Nat) : Int)) := by omega
        simp only [ifB_decide, if_neg q, bindO_ok, unc_cons, asI_int, un0_nil, if_pos hz]
        simp
      · have q : (((e + 1 + sgn l + wh isDig (l.drop (sgn l)) : Nat) : Int) > ((e + 1 + sgn l : Nat) : Int)) := by omega
        simp only [ifB_decide, if_pos q, bindO_ok, unc_cons, asI_int, un0_nil, if_neg hz, hx, hmi]
        generalize hN : numV 0 ((l.drop (sgn l)).take (wh isDig (l.drop (sgn l)))) = N
        by_cases hm : l.head? = some 45
        · have w2 : IntKind.wrap .i64 (0 - ((min N 1000000 : Nat) : Int)) = -((min N 1000000 : Nat) : Int) := by
            rw [wrap_i64 (by omega) (by omega)]; omega
          have w3 : IntKind.wrap .i64 (pw + -((min N 1000000 : Nat) : Int)) = pw + -((min N 1000000 : Nat) : Int) := wrap_i64 (by omega) (by omega)
          simp only [if_pos hm, letV_eq, w2, bindO_ok, unc_cons, asI_int, un0_nil, w3]
          rw [show e + 1 + sgn l + wh isDig (l.drop (sgn l)) = e + (1 + sgn l + wh isDig (l.drop (sgn l))) by omega]
        · have w3 : IntKind.wrap .i64 (pw + ((min N 1000000 : Nat) : Int)) = pw + ((min N 1000000 : Nat) : Int) := wrap_i64 (by omega) (by omega)
          simp only [if_neg hm, letV_eq, bindO_ok, unc_cons, asI_int, un0_nil, w3]
          rw [show e + 1 + sgn l + wh isDig (l.drop (sgn l)) = e + (1 + sgn l + wh isDig (l.drop (sgn l))) by omega]
    · have hc' : (c == 101 || c == 69) = false := by simpa using hc
      simp only [hc', ifB_false, bindO_ok, expo, if_neg hc]
      simp
theorem expo_bound (s : List UInt8) : -1000000 ≤ (expo s).2 ∧ (expo s).2 ≤ 1000000 := by
  unfold expo
  split
  · simp
  · split
    · dsimp only
      split
      · simp
      · dsimp only
        split <;> omega
    · simp
theorem rnumber {s : List UInt8} (hs : s.length ≤ 1000000) (h1 : 1 ≤ wh isDig s) : (orc vE).bare 47 [.str s] = some (.tup [.int .u8 ((number s).1 : Int), .int .i64 ((number s).2 : Int)]) := by
  refine bare_of rfl ((g47_eq _).trans ?_)
  have l1 : loopO (g47_L1 s) ([.int .i64 0], St.mk 0 0 Tr.leaf) = some (0, [.int .i64 ((wh isDig s : Nat) : Int)], St.mk 0 0 Tr.leaf) := by
    have := num_loop1 hs (St.mk 0 0 Tr.leaf) (n := 0) (l := s) rfl
    rw [Nat.zero_add] at this
    exact this
  have hw := wh_le isDig s
  have hd := head_at s (wh isDig s) 46 (by decide)
  have hd' : ((((s.getD (wh isDig s) 0).toNat : Nat) : Int) != 46) = !(decide ((s.drop (wh isDig s)).head? = some 46)) := by
    unfold bne
    rw [← hd, show ((((s.getD (wh isDig s) 0).toNat : Nat) : Int) == 46) = (s.getD (wh isDig s) 0 == 46) from byte_beq _ 46]
  simp only [g47, asS_str, l1, bindO_ok, unc_cons, asI_int, un0_nil, call_at, hd']
  have hnum : number s = if (s.drop (wh isDig s)).head? = some 46 then (if wh isDig s + wh isDig (s.drop (wh isDig s + 1)) > 15 ∨ (expo (s.drop (wh isDig s + 1 + wh isDig (s.drop (wh isDig s + 1))))).2 - (wh isDig (s.drop (wh isDig s + 1)) : Int) < -22 ∨ (expo (s.drop (wh isDig s + 1 + wh isDig (s.drop (wh isDig s + 1))))).2 - (wh isDig (s.drop (wh isDig s + 1)) : Int) > 22 then 9 else 6, wh isDig s + 1 + wh isDig (s.drop (wh isDig s + 1)) + (expo (s.drop (wh isDig s + 1 + wh isDig (s.drop (wh isDig s + 1))))).1) else (5, wh isDig s) := rfl
  rw [hnum]
  by_cases h46 : (s.drop (wh isDig s)).head? = some 46
  · have hlt : wh isDig s < s.length := by
      rcases Nat.lt_or_ge (wh isDig s) s.length with q | q
      · exact q
      · rw [List.drop_of_length_le q] at h46; cases h46
    have l2 := num_loop2 hs (St.mk 0 0 Tr.leaf) (n := wh isDig s + 1) (l := s.drop (wh isDig s + 1)) rfl
    have hk := wh_le isDig (s.drop (wh isDig s + 1))
    rw [List.length_drop] at hk
    generalize hn : wh isDig s = n at *
    generalize hkk : wh isDig (s.drop (n + 1)) = k at *
    have w1 := wrapA1 (show n + 1 ≤ 9223372036854775807 by omega)
    have w2 : IntKind.wrap .i64 (((n + 1 : Nat) : Int) - ((n + 1 + k : Nat) : Int)) = -(k : Int) := by rw [wrap_i64 (by omega) (by omega)]; omega
    have w3 : IntKind.wrap .i64 (((n + 1 + k : Nat) : Int) - 1) = ((n + k : Nat) : Int) := by rw [wrap_i64 (by omega) (by omega)]; omega
    simp only [decide_eq_true h46, Bool.not_true, ifB_false, letV_eq, w1, l2, bindO_ok, unc_cons, asI_int, un0_nil, w2, w3, if_pos h46]
    have re := fun (K : Car → Option AV) => rexpo hs (n + 1 + k) (-(k : Int)) (by omega) (by omega) (by omega) (St.mk 0 0 Tr.leaf) K
    simp only [letV_eq] at re
    rw [re]
    have hb := expo_bound (s.drop (n + 1 + k))
    generalize (expo (s.drop (n + 1 + k))).1 = x1 at *
    generalize (expo (s.drop (n + 1 + k))).2 = x2 at *
    simp only [unc_cons, asI_int, un0_nil]
    by_cases c1 : n + k > 15
    · have q : ((n + k : Nat) : Int) > 15 := by omega
      simp only [ifB_decide, if_pos q, bindO_ok, unc_cons, asB_bool, un0_nil, ifB_true, if_pos (show n + k > 15 ∨ x2 - (k : Int) < -22 ∨ x2 - (k : Int) > 22 from .inl c1)]
      rfl
    · have q : ¬ ((n + k : Nat) : Int) > 15 := by omega
      by_cases c2 : x2 - (k : Int) < -22
      · have q2 : -(k : Int) + x2 < -22 := by omega
        simp only [ifB_decide, if_neg q, if_pos q2, bindO_ok, unc_cons, asB_bool, un0_nil, ifB_true, if_pos (show n + k > 15 ∨ x2 - (k : Int) < -22 ∨ x2 - (k : Int) > 22 from .inr (.inl c2))]
        rfl
      · have q2 : ¬ -(k : Int) + x2 < -22 := by omega
        by_cases c3 : x2 - (k : Int) > 22
        · have q3 : -(k : Int) + x2 > 22 := by omega
          simp only [ifB_decide, if_neg q, if_neg q2, if_pos q3, bindO_ok, unc_cons, asB_bool, un0_nil, if_pos (show n + k > 15 ∨ x2 - (k : Int) < -22 ∨ x2 - (k : Int) > 22 from .inr (.inr c3))]
          rfl
        · have q3 : ¬ -(k : Int) + x2 > 22 := by omega
          simp only [ifB_decide, if_neg q, if_neg q2, if_neg q3, bindO_ok, unc_cons, asB_bool, un0_nil, if_neg (show ¬ (n + k > 15 ∨ x2 - (k : Int) < -22 ∨ x2 - (k : Int) > 22) by omega)]
          rfl
  · simp only [decide_eq_false h46, Bool.not_false, ifB_true, if_neg h46]
    rfl
end Go.Proofs.YtjppooaadaepjaaDoor.Vm
/- Tokens: the reference's cut and its tokens. -/
set_option maxRecDepth 100000
set_option linter.unusedSimpArgs false
namespace Go.Proofs.YtjppooaadaepjaaDoor.Vm
open Go Go.VM Go.Proofs Go.Lex

def wordsL : AV := AV.sl 1 [AV.str [108, 101, 116], AV.str [114, 101, 99], AV.str [105, 110], AV.str [102, 117, 110], AV.str [105, 102], AV.str [116, 104, 101, 110], AV.str [101, 108, 115, 101], AV.str [109, 97, 116, 99, 104], AV.str [119, 105, 116, 104], AV.str [116, 114, 117, 101], AV.str [102, 97, 108, 115, 101], AV.str [109, 111, 100]] Perm.shut
def twosL : AV := AV.sl 1 [AV.str [45, 62], AV.str [58, 58], AV.str [60, 62], AV.str [60, 61], AV.str [62, 61], AV.str [43, 46], AV.str [45, 46], AV.str [42, 46], AV.str [47, 46], AV.str [38, 38], AV.str [124, 124]] Perm.shut
theorem strs_idx (l : List (List UInt8)) (hl : l.length ≤ 1000) {j : Nat} {w : List UInt8} (h : l[j]? = some w) {β : Type} (st : St) (K : AV → List Nat → Option β) : idxA 1 (AV.sl 1 (l.map AV.str) .shut) (j : Int) st K = K (.ip [.str w]) [] :=
  (IsSl.shut (z := 1) (es := l.map AV.str) (by rw [List.length_map]; omega)).idx (by rw [List.getElem?_map, h]; rfl) st K
theorem words_idx {j : Nat} {w : List UInt8} (h : words[j]? = some w) {β : Type} (st : St) (K : AV → List Nat → Option β) : idxA 1 wordsL (j : Int) st K = K (.ip [.str w]) [] := strs_idx words (by decide) h st K
theorem twos_idx {j : Nat} {w : List UInt8} (h : twos[j]? = some w) {β : Type} (st : St) (K : AV → List Nat → Option β) : idxA 1 twosL (j : Int) st K = K (.ip [.str w]) [] := strs_idx twos (by decide) h st K
theorem word_loop (w : List UInt8) (st : St) : ∀ (l : List (List UInt8)) (j : Nat), words.drop j = l → l.length + j = 12 →
    loopO (g45_L1 w) ([.bool false, .int .i64 (j : Int)], st) = some (if l.contains w then (1, [.bool true], st) else (0, [.bool false], st))
  | [], j, hd, hj => by
    have q : ¬ (j : Int) < 12 := by simp at hj; omega
    refine loopO_inr ?_
    simp only [g45_L1, unc_cons, asB_bool, asI_int, un0_nil, ifB_decide, if_neg q]
    rfl
  | x :: l, j, hd, hj => by
    obtain ⟨hg, hr, hlt⟩ := drop_cons hd
    have q : (j : Int) < 12 := by simp at hj; omega
    have hidx := fun {β : Type} (st : St) (K : AV → List Nat → Option β) => words_idx hg st K
    unfold wordsL at hidx
    rw [List.contains_cons, BEq.comm]
    cases hx : x == w with
    | true =>
      refine loopO_inr ?_
      simp only [g45_L1, unc_cons, asB_bool, asI_int, un0_nil, ifB_decide, if_pos q, hidx, loadS_ip, takeO_one, bindO_ok, asS_str, hx, ifB_true, Bool.true_or, if_true]
    | false =>
      rw [loopO_inl (s' := ([.bool false, .int .i64 ((j + 1 : Nat) : Int)], st)), word_loop w st l (j + 1) hr (by simp at hj; omega), Bool.false_or]
      simp only [g45_L1, unc_cons, asB_bool, asI_int, un0_nil, ifB_decide, if_pos q, hidx, loadS_ip, takeO_one, bindO_ok, asS_str, hx, ifB_false, letV_eq, wrapA1 (show j + 1 ≤ 9223372036854775807 by simp at hj; omega)]
theorem rword (w : List UInt8) : (orc vE).bare 45 [.str w] = some (.bool (words.contains w)) := by
  refine bare_of rfl ((g45_eq _).trans ?_)
  have e : loopO (g45_L1 w) ([.bool false, .int .i64 0], St.mk 0 0 Tr.leaf) = _ := word_loop w (St.mk 0 0 Tr.leaf) words 0 rfl rfl
  simp only [g45, asS_str]
  rw [e]
  cases words.contains w <;> rfl
theorem call_rword {β : Type} (w : List UInt8) (st : St) (K : Kv β) : callS (orc vE) 45 [.str w] st K = K (.bool (words.contains w)) st q0 := callS_bare st K rfl rfl rfl (rword w)
theorem twos_len {t : List UInt8} {j : Nat} (h : twos[j]? = some t) : t.length = 2 := by
  have hm := List.mem_of_getElem? h
  simp only [twos, List.mem_cons, List.not_mem_nil, or_false] at hm
  rcases hm with rfl | rfl | rfl | rfl | rfl | rfl | rfl | rfl | rfl | rfl | rfl <;> rfl
theorem two_loop (s : List UInt8) (st : St) : ∀ (l : List (List UInt8)) (j : Nat), twos.drop j = l → l.length + j = 11 →
    loopO (g27_L3 s) ([.int .u8 0, .int .i64 0, .int .i64 (j : Int)], st) = some (if l.contains (s.take 2) then (1, [.int .u8 8, .int .i64 2], st) else (0, [.int .u8 0, .int .i64 0], st))
  | [], j, hd, hj => by
    have q : ¬ (j : Int) < 11 := by simp at hj; omega
    refine loopO_inr ?_
    simp only [g27_L3, unc_cons, asI_int, un0_nil, ifB_decide, if_neg q]
    rfl
  | x :: l, j, hd, hj => by
    obtain ⟨hg, hr, hlt⟩ := drop_cons hd
    have q : (j : Int) < 11 := by simp at hj; omega
    have hidx := fun {β : Type} (st : St) (K : AV → List Nat → Option β) => twos_idx hg st K
    have hh := fun {β : Type} (st : St) (K : Kv β) => call_has0 s (twos_len hg) st K
    unfold twosL at hidx
    rw [List.contains_cons]
    cases hx : s.take 2 == x with
    | true =>
      refine loopO_inr ?_
      simp only [g27_L3, unc_cons, asI_int, un0_nil, ifB_decide, if_pos q, hidx, loadS_ip, takeO_one, bindO_ok, asS_str, hh, hx, asB_bool, ifB_true, Bool.true_or, if_true]
    | false =>
      rw [loopO_inl (s' := ([.int .u8 0, .int .i64 0, .int .i64 ((j + 1 : Nat) : Int)], st)), two_loop s st l (j + 1) hr (by simp at hj; omega), Bool.false_or]
      simp only [g27_L3, unc_cons, asI_int, un0_nil, ifB_decide, if_pos q, hidx, loadS_ip, takeO_one, bindO_ok, asS_str, hh, hx, asB_bool, ifB_false, letV_eq, wrapA1 (show j + 1 ≤ 9223372036854775807 by simp at hj; omega)]
theorem one_loop (c : UInt8) (st : St) : ∀ (l : List UInt8) (j : Nat), ones1.drop j = l → l.length + j = 16 →
    loopO (g27_L4 c) ([.int .u8 0, .int .i64 0, .int .i64 (j : Int)], st) = some (if l.contains c then (1, [.int .u8 8, .int .i64 1], st) else (0, [.int .u8 0, .int .i64 0], st))
  | [], j, hd, hj => by
    have q : ¬ (j : Int) < 16 := by simp at hj; omega
    refine loopO_inr ?_
    simp only [g27_L4, unc_cons, asI_int, un0_nil, ifB_decide, if_neg q]
    rfl
  | x :: l, j, hd, hj => by
    obtain ⟨hg, hr, hlt⟩ := drop_cons hd
    have q : (j : Int) < 16 := by simp at hj; omega
    have hi := fun {β : Type} (K : UInt8 → Option β) => idxStr_nat hlt K
    have he : ones1[j] = x := getElem_of hlt hg
    rw [he] at hi
    unfold ones1 at hi
    have hb := byte_beq x c
    rw [List.contains_cons, BEq.comm]
    cases hx : x == c with
    | true =>
      rw [hx] at hb
      refine loopO_inr ?_
      simp only [g27_L4, unc_cons, asI_int, un0_nil, ifB_decide, if_pos q, hi, hb, ifB_true, Bool.true_or, if_true]
    | false =>
      rw [hx] at hb
      rw [loopO_inl (s' := ([.int .u8 0, .int .i64 0, .int .i64 ((j + 1 : Nat) : Int)], st)), one_loop c st l (j + 1) hr (by simp at hj; omega), Bool.false_or]
      simp only [g27_L4, unc_cons, asI_int, un0_nil, ifB_decide, if_pos q, hi, hb, ifB_false, letV_eq, wrapA1 (show j + 1 ≤ 9223372036854775807 by simp at hj; omega)]
theorem rcut {s : List UInt8} (hne : s ≠ []) (hs : s.length ≤ 1000000) : (orc vE).bare 27 [.str s] = some (.tup [.int .u8 ((cut s).1 : Int), .int .i64 ((cut s).2 : Int)]) := by
  cases s with
  | nil => exact absurd rfl hne
  | cons c l =>
  refine bare_of rfl ((g27_eq _).trans ?_)
  have i0 : ∀ {β : Type} (K : UInt8 → Option β), idxStr (c :: l) 0 K = K c := fun K => idxStr_nat (k := 0) (by simp) K
  have hh := fun {β : Type} (st : St) (K : Kv β) => call_has0 (c :: l) (t := [40, 42]) rfl st K
  simp only [g27, asS_str, i0, call_rblank, asB_bool]
  unfold cut
  dsimp only
  cases hb : isBlank c with
  | true =>
    have e : loopO (g27_L1 (c :: l)) ([.int .i64 0], St.mk 0 0 Tr.leaf) = some (0, [.int .i64 ((wh isBlank (c :: l) : Nat) : Int)], St.mk 0 0 Tr.leaf) := by
      have := cut_loop1 hs (St.mk 0 0 Tr.leaf) (n := 0) (l := c :: l) rfl
      rw [Nat.zero_add] at this
      exact this
    simp only [ifB_true, e, bindO_ok, unc_cons, asI_int, un0_nil, if_true]
    rfl
  | false =>
  simp only [ifB_false, hh, asB_bool, Bool.false_eq_true, if_false]
  by_cases hr : (c :: l).take 2 = [40, 42]
  · have hr' : ((c :: l).take 2 == [40, 42]) = true := beq_iff_eq.2 hr
    have hl : 2 ≤ (c :: l).length := by
      have := congrArg List.length hr
      rw [List.length_take] at this
      simp at this; simp; omega
    have e := fun {β : Type} (st : St) (K : Kv β) => callS_bare st K rfl rfl rfl (rremark_ok hs hl)
    simp only [hr', ifB_true, e, if_pos hr]
    cases rem (List.drop 2 (c :: l)) 1 with
    | some n => simp only [unT_tup, nthS_zero, nthS_one, asI_int, asB_bool, ifB_true]; rfl
    | none => simp only [unT_tup, nthS_zero, nthS_one, asI_int, asB_bool, ifB_false]; rfl
  have hr' : ((c :: l).take 2 == [40, 42]) = false := beq_eq_false_iff_ne.2 hr
  simp only [hr', ifB_false, if_neg hr, call_rlow, asB_bool]
  cases hlo : isLow c with
  | true =>
    have e : loopO (g27_L2 (c :: l)) ([.int .i64 0], St.mk 0 0 Tr.leaf) = some (0, [.int .i64 ((wh isBeh (c :: l) : Nat) : Int)], St.mk 0 0 Tr.leaf) := by
      have := cut_loop2 hs (St.mk 0 0 Tr.leaf) (n := 0) (l := c :: l) rfl
      rw [Nat.zero_add] at this
      exact this
    have hw := wh_take isBeh (c :: l)
    simp only [ifB_true, e, bindO_ok, unc_cons, asI_int, un0_nil, uptoS_nat (wh_le isBeh (c :: l)), List.drop_zero, letV_eq, hw, call_rword, asB_bool, if_true]
    unfold nameK
    by_cases h1 : (c :: l).takeWhile isBeh = [95]
    · have h2 : wh isBeh (c :: l) = 1 := by
        show ((c :: l).takeWhile isBeh).length = 1
        rw [h1]; rfl
      rw [h1, h2]; rfl
    · rw [beq_eq_false_iff_ne.2 h1, if_neg h1]
      cases words.contains ((c :: l).takeWhile isBeh) <;> rfl
  | false =>
  simp only [ifB_false, Bool.false_eq_true, if_false, call_rdigit, asB_bool]
  cases hdi : isDig c with
  | true =>
    have e := fun {β : Type} (st : St) (K : Kv β) => callS_bare st K rfl rfl rfl (rnumber hs (by rw [wh_cons, if_pos hdi]; omega))
    simp only [ifB_true, e, unT_tup, nthS_zero, nthS_one, asI_int, if_true]
  | false =>
  have b34 : ((c.toNat : Int) == 34) = (c == 34) := byte_beq c 34
  simp only [ifB_false, Bool.false_eq_true, if_false, b34]
  by_cases hq : c = 34
  · have hq' : (c == 34) = true := beq_iff_eq.2 hq
    have e := fun {β : Type} (st : St) (K : Kv β) => callS_bare st K rfl rfl rfl (rtext_ok (c := c) hs)
    simp only [hq', ifB_true, e, unT_tup, nthS_zero, nthS_one, asI_int, if_pos hq]
  have hq' : (c == 34) = false := beq_eq_false_iff_ne.2 hq
  have e3 : loopO (g27_L3 (c :: l)) ([.int .u8 0, .int .i64 0, .int .i64 0], St.mk 0 0 Tr.leaf) = _ := two_loop (c :: l) (St.mk 0 0 Tr.leaf) twos 0 rfl rfl
  simp only [hq', ifB_false, if_neg hq]
  rw [e3]
  cases ht : twos.contains ((c :: l).take 2) with
  | true => rfl
  | false =>
  have e4 : loopO (g27_L4 c) ([.int .u8 0, .int .i64 0, .int .i64 0], St.mk 0 0 Tr.leaf) = some (if isOne c then (1, [.int .u8 8, .int .i64 1], St.mk 0 0 Tr.leaf) else (0, [.int .u8 0, .int .i64 0], St.mk 0 0 Tr.leaf)) := one_loop c (St.mk 0 0 Tr.leaf) ones1 0 rfl rfl
  simp only [Bool.false_eq_true, if_false, bindO_ok, unc_cons, asI_int, un0_nil, sel2_zero]
  rw [e4]
  cases ho : isOne c with
  | true => rfl
  | false =>
  obtain ⟨p, e, _⟩ := ref_rune (s := c :: l) (by simp)
  have e := fun {β : Type} (st : St) (K : Kv β) => callS_bare st K rfl rfl rfl e
  simp only [Bool.false_eq_true, if_false, bindO_ok, unc_cons, asI_int, un0_nil, sel2_zero, e, unT_tup, nthS_zero, nthS_one]
  rfl
theorem rtoks_loop : ∀ (n : Nat) (s : List UInt8) (st : St) (v : AV) (es : List AV), s.length ≤ n → n ≤ 500000 → Own st 2 27 v es → es.length + n ≤ 500000 →
    ∃ v' st', loopO g8_L1 ([v, .str s], st) = some (0, [v'], st') ∧ Own st' 2 27 v' (es ++ (tokens s).map tok)
  | n, [], st, v, es, _, _, ho, _ => by
    refine ⟨v, st, loopO_inr ?_, by simpa [tokens_nil] using ho⟩
    simp only [g8_L1, unc_cons, asS_str, un0_nil, show (!(([] : List UInt8) == [])) = false from rfl, ifB_false]
  | 0, c :: l, _, _, _, h, _, _, _ => by simp at h
  | n + 1, c :: l, st, v, es, h, hn, ho, he => by
    have hc := cut_le (s := c :: l) (by simp)
    have hcut := fun {β : Type} (st : St) (K : Kv β) => callS_bare st K rfl rfl rfl (rcut (s := c :: l) (by simp) (by omega))
    obtain ⟨v1, st1, o1, k1, x1, a1⟩ := own_app (b := 24) (tok ((cut (c :: l)).1, (c :: l).take (cut (c :: l)).2)) ho (room_of (by omega) (by omega) (by omega))
    have a1 : ∀ {β : Type} (K : Kv β), appS 2 24 27 v [.agg [.int .u8 ((cut (c :: l)).1 : Int), .str ((c :: l).take (cut (c :: l)).2)]] st K = K v1 st1 x1 := fun K => a1 K
    have hd : ((c :: l).drop (cut (c :: l)).2).length ≤ n := by rw [List.length_drop]; omega
    obtain ⟨v2, st2, e2, o2⟩ := rtoks_loop n ((c :: l).drop (cut (c :: l)).2) st1 v1 _ hd (by omega) o1 (by rw [List.length_append]; simp; omega)
    refine ⟨v2, st2, ?_, ?_⟩
    · rw [loopO_inl (s' := ([v1, .str ((c :: l).drop (cut (c :: l)).2)], st1)), e2]
      simp only [g8_L1, unc_cons, asS_str, un0_nil, show (!((c :: l : List UInt8) == [])) = true from rfl, ifB_true, hcut, unT_tup, nthS_zero, nthS_one, asI_int, uptoS_nat hc.2, List.drop_zero, letV_eq, a1, List.take_length]
    · rw [tokens_cons (by simp), List.map_cons]
      rw [List.append_assoc] at o2
      exact o2
theorem call_rvalid {β : Type} (s : List UInt8) (st : St) (K : Kv β) : callS (orc vE) 26 [.str s] st K = K (.bool (validS s)) st q0 := callS_bare st K rfl rfl rfl (ref_valid s)
theorem rtokens_large {s : List UInt8} (h : 65536 < s.length) : (orc vE).bare 8 [.str s] = some (.tup [.nils, .int .i64 40]) := by
  refine bare_of rfl ((g8_eq _).trans ?_)
  have q : (s.length : Int) > 65536 := by omega
  simp only [g8, asS_str, ifB_decide, if_pos q]
theorem rtokens_form {s : List UInt8} (h : s.length ≤ 65536) (hv : validS s = false) : (orc vE).bare 8 [.str s] = some (.tup [.nils, .int .i64 4]) := by
  refine bare_of rfl ((g8_eq _).trans ?_)
  have q : ¬ (s.length : Int) > 65536 := by omega
  simp only [g8, asS_str, ifB_decide, if_neg q, call_rvalid, hv, asB_bool, Bool.not_false, ifB_true]
theorem rtokens_ok {s : List UInt8} (h : s.length ≤ 65536) (hv : validS s = true) : ∃ x, (orc vE).bare 8 [.str s] = some (.tup [x, .int .i64 0]) ∧ IsSl 2 x ((tokens s).map tok) := by
  have q : ¬ (s.length : Int) > 65536 := by omega
  obtain ⟨v', st', e, o⟩ := rtoks_loop s.length s (St.mk 0 0 Tr.leaf) .nils [] (Nat.le_refl _) (by omega) (Own.nils (Nat.le_refl _) _ _) (by simp; omega)
  rw [List.nil_append] at o
  obtain ⟨x, hx, hf⟩ := frz_own2 o (fz_int .i64 0) rfl
  refine ⟨x, bare_of rfl ((g8_eq _).trans ?_), hx⟩
  simp only [g8, asS_str, ifB_decide, if_neg q, call_rvalid, hv, asB_bool, Bool.not_true, ifB_false, e, bindO_ok, unc_cons, un0_nil, hf]
end Go.Proofs.YtjppooaadaepjaaDoor.Vm
/- Tokens: one token; the law of tokens. -/
set_option maxRecDepth 100000
set_option linter.unusedSimpArgs false
namespace Go.Proofs.YtjppooaadaepjaaDoor.Vm
open Go Go.VM Go.Proofs Go.Lex

theorem eq_tok (a b : Int) (s t : List UInt8) : eqT (Env.T vE) 20 27 (.agg [.int .u8 a, .str s]) (.agg [.int .u8 b, .str t]) = .ok (a == b && s == t) := by
  have h : eqT (Env.T vE) 20 27 (.agg [.int .u8 a, .str s]) (.agg [.int .u8 b, .str t]) = (match a == b with | true => (match s == t with | true => .ok true | false => .ok false) | false => .ok false) := rfl
  rw [h]
  cases a == b <;> cases s == t <;> rfl
theorem neq_tok (a b : Int) (s t : List UInt8) : toO (VM.binOp (Env.T vE) BinOp.neq 27 (.agg [.int .u8 a, .str s]) (.agg [.int .u8 b, .str t])) = some (.bool !(a == b && s == t)) := by
  have h : VM.binOp (Env.T vE) BinOp.neq 27 (.agg [.int .u8 a, .str s]) (.agg [.int .u8 b, .str t]) = (do pure (.bool !(← eqT (Env.T vE) 20 27 (.agg [.int .u8 a, .str s]) (.agg [.int .u8 b, .str t])))) := rfl
  rw [h, eq_tok]; rfl
theorem eql_tok (a b : Int) (s t : List UInt8) : toO (VM.binOp (Env.T vE) BinOp.eql 27 (.agg [.int .u8 a, .str s]) (.agg [.int .u8 b, .str t])) = some (.bool (a == b && s == t)) := by
  have h : VM.binOp (Env.T vE) BinOp.eql 27 (.agg [.int .u8 a, .str s]) (.agg [.int .u8 b, .str t]) = (do pure (.bool (← eqT (Env.T vE) 20 27 (.agg [.int .u8 a, .str s]) (.agg [.int .u8 b, .str t])))) := rfl
  rw [h, eq_tok]; rfl
theorem tok_cells (p : Nat × List UInt8) : (tok p).cells = [.int .u8 (p.1 : Int), .str p.2] := rfl
theorem toks_idx {x : AV} {es : List (Nat × List UInt8)} (h : IsSl 2 x (es.map tok)) {j : Nat} {p : Nat × List UInt8} (hj : es[j]? = some p) {β : Type} (st : St) (K : AV → List Nat → Option β) : idxA 2 x (j : Int) st K = K (.ip [.int .u8 (p.1 : Int), .str p.2]) [] :=
  h.idx (by rw [List.getElem?_map, hj]; rfl) st K
theorem same_loop {x y : AV} {es : List (Nat × List UInt8)} (hx : IsSl 2 x (es.map tok)) (hy : IsSl 2 y (es.map tok)) (st : St) : ∀ (l : List (Nat × List UInt8)) (j : Nat), es.drop j = l →
    loopO (g11_L1 x y) ([.bool false, .int .i64 (j : Int)], st) = some (0, [.bool false], st)
  | [], j, hd => by
    have := List.drop_eq_nil_iff.1 hd
    have q : ¬ (j : Int) < ((es.map tok).length : Int) := by rw [List.length_map]; omega
    refine loopO_inr ?_
    simp only [g11_L1, unc_cons, asB_bool, asI_int, un0_nil, hx.len, ifB_decide, if_neg q]
  | p :: l, j, hd => by
    obtain ⟨hg, hr, hlt⟩ := drop_cons hd
    have hl := hx.1
    rw [List.length_map] at hl
    have q : (j : Int) < ((es.map tok).length : Int) := by rw [List.length_map]; omega
    rw [loopO_inl (s' := ([.bool false, .int .i64 ((j + 1 : Nat) : Int)], st)), same_loop hx hy st l (j + 1) hr]
    simp only [g11_L1, unc_cons, asB_bool, asI_int, un0_nil, hx.len, ifB_decide, if_pos q, toks_idx hx hg, toks_idx hy hg, loadS_ip, takeO2, bindO_ok, unA_agg, asS_str, neq_tok, beq_self_eq_true, Bool.and_self, Bool.not_true, ifB_false, letV_eq, wrapA1 (show j + 1 ≤ 9223372036854775807 by omega)]
theorem same_ok {x y : AV} {es : List (Nat × List UInt8)} (hx : IsSl 2 x (es.map tok)) (hy : IsSl 2 y (es.map tok)) : (orc vE).bare 11 [x, y] = some (.bool true) := by
  refine bare_of rfl ((g11_eq _ _).trans ?_)
  have e : loopO (g11_L1 x y) ([.bool false, .int .i64 0], St.mk 0 0 Tr.leaf) = _ := same_loop hx hy (St.mk 0 0 Tr.leaf) es 0 rfl
  simp only [g11, hx.len, hy.len, ifB_bne, if_true]
  rw [e]
  rfl
def oneT (l : List (Nat × List UInt8)) : (Nat × List UInt8) × Int := match l with | [p] => (p, 0) | _ => ((0, []), 4)
/-- The one token that a text is. -/
def oneK (s : List UInt8) : (Nat × List UInt8) × Int :=
  if 65536 < s.length then ((0, []), 40) else if validS s = false then ((0, []), 4) else oneT (tokens s)
def oneV (s : List UInt8) : AV := .tup [tok (oneK s).1, .int .i64 (oneK s).2]
theorem cell0 {x : AV} (k : Nat) (t : List UInt8) : ∃ st', st'.get 0 = .ok (.cells 27 [.int .u8 (k : Int), .str t]) ∧
    ∃ fx, ∀ {β : Type} (K : Kv β), storeS (orc vE) 2 (AV.mp 0 0) x [.int .u8 (k : Int), .str t] (St.mk 1 0 (Tr.node (some (VM.Obj.cells 27 [AV.int .u8 0, AV.str []])) Tr.leaf Tr.leaf)) K = K VM.undef st' fx := by
  obtain ⟨st', hg, _, _, fx, hs⟩ := local_var (O := orc vE) (st := St.mk 0 0 Tr.leaf) (t := 27) (z := 2) (old := [.int .u8 0, .str []]) (cs := [.int .u8 (k : Int), .str t]) x rfl rfl (Nat.le_refl _)
  exact ⟨st', hg, fx, fun K => hs K⟩
theorem one_ok (s : List UInt8) : (orc vE).bare 9 [.str s] = some (oneV s) := by
  refine bare_of rfl ((g9_eq _).trans ?_)
  obtain ⟨s0, h0, fx0, e0⟩ := cell0 (x := .agg [.int .u8 0, .str []]) 0 []
  have e0 : ∀ {β : Type} (K : Kv β), storeS (orc vE) 2 (AV.mp 0 0) (.agg [.int .u8 0, .str []]) [.int .u8 0, .str []] (St.mk 1 0 (Tr.node (some (VM.Obj.cells 27 [AV.int .u8 0, AV.str []])) Tr.leaf Tr.leaf)) K = K VM.undef s0 fx0 := e0
  by_cases h1 : 65536 < s.length
  · have c := fun {β : Type} (st : St) (K : Kv β) => callS_bare st K rfl rfl rfl (tokens_large h1)
    simp only [g9, asS_str, c, unT_tup, nthS_zero, nthS_one, asI_int, ifB_bne, show ¬ ((40 : Int) = 0) by omega, if_false, e0, loadS_mp h0, List.drop_zero, takeO2, bindO_ok, unA_agg, unc_cons, un0_nil, oneV, oneK, if_pos h1]
    rfl
  · cases hv : validS s with
    | false =>
      have c := fun {β : Type} (st : St) (K : Kv β) => callS_bare st K rfl rfl rfl (tokens_form (by omega) hv)
      simp only [g9, asS_str, c, unT_tup, nthS_zero, nthS_one, asI_int, ifB_bne, show ¬ ((4 : Int) = 0) by omega, if_false, e0, loadS_mp h0, List.drop_zero, takeO2, bindO_ok, unA_agg, unc_cons, un0_nil, oneV, oneK, if_neg h1, hv, if_true]
      rfl
    | true =>
      obtain ⟨x, hx, hs⟩ := tokens_ok (by omega) hv
      have c := fun {β : Type} (st : St) (K : Kv β) => callS_bare st K rfl rfl rfl hx
      have hone : oneK s = oneT (tokens s) := by
        simp only [oneK, if_neg h1, hv, Bool.true_eq_false, if_false]
      match ht : tokens s with
      | [p] =>
        rw [ht] at hs hone
        have hl : ((([p].map tok).length : Nat) : Int) = 1 := rfl
        obtain ⟨s1, h1, fx1, e1⟩ := cell0 (x := .agg [.int .u8 (p.1 : Int), .str p.2]) p.1 p.2
        have hi : ∀ {β : Type} (st : St) (K : AV → List Nat → Option β), idxA 2 x 0 st K = K (.ip [.int .u8 (p.1 : Int), .str p.2]) [] := fun st K => toks_idx (es := [p]) (j := 0) hs rfl st K
        simp only [g9, asS_str, c, unT_tup, nthS_zero, nthS_one, asI_int, ifB_bne, if_true, hs.len, hl, hi, loadS_ip, takeO2, bindO_ok, unA_agg, unc_cons, un0_nil, e1, loadS_mp h1, List.drop_zero, oneV, hone, oneT]
        rfl
      | [] =>
        rw [ht] at hs hone
        have hl : ¬ ((((([] : List (Nat × List UInt8)).map tok).length : Nat) : Int) = 1) := by simp
        simp only [g9, asS_str, c, unT_tup, nthS_zero, nthS_one, asI_int, ifB_bne, if_true, hs.len, if_neg hl, e0, loadS_mp h0, List.drop_zero, takeO2, bindO_ok, unA_agg, unc_cons, un0_nil, oneV, hone, oneT]
        rfl
      | p :: q :: l =>
        rw [ht] at hs hone
        have hl : ¬ (((((p :: q :: l).map tok).length : Nat) : Int) = 1) := by simp; omega
        simp only [g9, asS_str, c, unT_tup, nthS_zero, nthS_one, asI_int, ifB_bne, if_true, hs.len, if_neg hl, e0, loadS_mp h0, List.drop_zero, takeO2, bindO_ok, unA_agg, unc_cons, un0_nil, oneV, hone, oneT]
        rfl
end Go.Proofs.YtjppooaadaepjaaDoor.Vm
/- Tokens: the reference's one token; the law of tokens. -/
set_option maxRecDepth 100000
set_option linter.unusedSimpArgs false
namespace Go.Proofs.YtjppooaadaepjaaDoor.Vm
open Go Go.VM Go.Proofs Go.Lex

theorem rone_ok (s : List UInt8) : (orc vE).bare 10 [.str s] = some (oneV s) := by
  refine bare_of rfl ((g10_eq _).trans ?_)
  obtain ⟨s0, h0, fx0, e0⟩ := cell0 (x := .agg [.int .u8 0, .str []]) 0 []
  have e0 : ∀ {β : Type} (K : Kv β), storeS (orc vE) 2 (AV.mp 0 0) (.agg [.int .u8 0, .str []]) [.int .u8 0, .str []] (St.mk 1 0 (Tr.node (some (VM.Obj.cells 27 [AV.int .u8 0, AV.str []])) Tr.leaf Tr.leaf)) K = K VM.undef s0 fx0 := e0
  by_cases h1 : 65536 < s.length
  · have c := fun {β : Type} (st : St) (K : Kv β) => callS_bare st K rfl rfl rfl (rtokens_large h1)
    simp only [g10, asS_str, c, unT_tup, nthS_zero, nthS_one, asI_int, ifB_bne, show ¬ ((40 : Int) = 0) by omega, if_false, e0, loadS_mp h0, List.drop_zero, takeO2, bindO_ok, unA_agg, unc_cons, un0_nil, oneV, oneK, if_pos h1]
    rfl
  · cases hv : validS s with
    | false =>
      have c := fun {β : Type} (st : St) (K : Kv β) => callS_bare st K rfl rfl rfl (rtokens_form (by omega) hv)
      simp only [g10, asS_str, c, unT_tup, nthS_zero, nthS_one, asI_int, ifB_bne, show ¬ ((4 : Int) = 0) by omega, if_false, e0, loadS_mp h0, List.drop_zero, takeO2, bindO_ok, unA_agg, unc_cons, un0_nil, oneV, oneK, if_neg h1, hv, if_true]
      rfl
    | true =>
      obtain ⟨x, hx, hs⟩ := rtokens_ok (by omega) hv
      have c := fun {β : Type} (st : St) (K : Kv β) => callS_bare st K rfl rfl rfl hx
      have hone : oneK s = oneT (tokens s) := by
        simp only [oneK, if_neg h1, hv, Bool.true_eq_false, if_false]
      match ht : tokens s with
      | [p] =>
        rw [ht] at hs hone
        have hl : ((([p].map tok).length : Nat) : Int) = 1 := rfl
        obtain ⟨s1, h1, fx1, e1⟩ := cell0 (x := .agg [.int .u8 (p.1 : Int), .str p.2]) p.1 p.2
        have hi : ∀ {β : Type} (st : St) (K : AV → List Nat → Option β), idxA 2 x 0 st K = K (.ip [.int .u8 (p.1 : Int), .str p.2]) [] := fun st K => toks_idx (es := [p]) (j := 0) hs rfl st K
        simp only [g10, asS_str, c, unT_tup, nthS_zero, nthS_one, asI_int, ifB_bne, if_true, hs.len, hl, hi, loadS_ip, takeO2, bindO_ok, unA_agg, unc_cons, un0_nil, e1, loadS_mp h1, List.drop_zero, oneV, hone, oneT]
        rfl
      | [] =>
        rw [ht] at hs hone
        have hl : ¬ ((((([] : List (Nat × List UInt8)).map tok).length : Nat) : Int) = 1) := by simp
        simp only [g10, asS_str, c, unT_tup, nthS_zero, nthS_one, asI_int, ifB_bne, if_true, hs.len, if_neg hl, e0, loadS_mp h0, List.drop_zero, takeO2, bindO_ok, unA_agg, unc_cons, un0_nil, oneV, hone, oneT]
        rfl
      | p :: q :: l =>
        rw [ht] at hs hone
        have hl : ¬ (((((p :: q :: l).map tok).length : Nat) : Int) = 1) := by simp; omega
        simp only [g10, asS_str, c, unT_tup, nthS_zero, nthS_one, asI_int, ifB_bne, if_true, hs.len, if_neg hl, e0, loadS_mp h0, List.drop_zero, takeO2, bindO_ok, unA_agg, unc_cons, un0_nil, oneV, hone, oneT]
        rfl
theorem call_one {β : Type} (s : List UInt8) (st : St) (K : Kv β) : callS (orc vE) 9 [.str s] st K = K (oneV s) st q0 := callS_bare st K rfl rfl rfl (one_ok s)
theorem call_rone {β : Type} (s : List UInt8) (st : St) (K : Kv β) : callS (orc vE) 10 [.str s] st K = K (oneV s) st q0 := callS_bare st K rfl rfl rfl (rone_ok s)
/-- What both make of a text: the tokens, or nothing. -/
theorem both (s : List UInt8) : ∃ (x y : AV) (es : List (Nat × List UInt8)) (e : Int), (orc vE).bare 7 [.str s] = some (.tup [x, .int .i64 e]) ∧ (orc vE).bare 8 [.str s] = some (.tup [y, .int .i64 e]) ∧ IsSl 2 x (es.map tok) ∧ IsSl 2 y (es.map tok) := by
  by_cases h1 : 65536 < s.length
  · exact ⟨.nils, .nils, [], 40, tokens_large h1, rtokens_large h1, IsSl.nils, IsSl.nils⟩
  · cases hv : validS s with
    | false => exact ⟨.nils, .nils, [], 4, tokens_form (by omega) hv, rtokens_form (by omega) hv, IsSl.nils, IsSl.nils⟩
    | true =>
      obtain ⟨x, hx, h⟩ := tokens_ok (by omega) hv
      obtain ⟨y, hy, k⟩ := rtokens_ok (by omega) hv
      exact ⟨x, y, tokens s, 0, hx, hy, h, k⟩
theorem law_tokens (s : List UInt8) : (orc vE).bare 3 [.str s] = some (.bool true) := by
  refine bare_of rfl ((g3_eq _).trans ?_)
  by_cases h : (s.length : Int) > 4000
  · simp only [g3, asS_str, ifB_decide, if_pos h]
  · obtain ⟨x, y, es, e, hx, hy, sx, sy⟩ := both s
    have cx := fun {β : Type} (st : St) (K : Kv β) => callS_bare st K rfl rfl rfl hx
    have cy := fun {β : Type} (st : St) (K : Kv β) => callS_bare st K rfl rfl rfl hy
    have cs := fun {β : Type} (st : St) (K : Kv β) => callS_bare (f := 11) st K rfl (by simp only [List.map_cons, List.map_nil, sx.strip, sy.strip]) (by simp [bares, VM.bare.bareAll, sx.bare, sy.bare]) (same_ok sx sy)
    obtain ⟨⟨k, t⟩, e1⟩ : ∃ p, (oneK s).1 = p := ⟨_, rfl⟩
    obtain ⟨s1, g1, k1, n1, fx1, e2⟩ := local_var (O := orc vE) (st := St.mk 0 0 Tr.leaf) (t := 27) (z := 2) (old := [.int .u8 0, .str []]) (cs := [.int .u8 (k : Int), .str t]) (.agg [.int .u8 (k : Int), .str t]) rfl rfl (Nat.le_refl _)
    obtain ⟨s2, g2, k2, n2, fx2, e3⟩ := local_var (O := orc vE) (st := s1) (t := 27) (z := 2) (old := [.int .u8 0, .str []]) (cs := [.int .u8 (k : Int), .str t]) (.agg [.int .u8 (k : Int), .str t]) rfl rfl (by have h1 := k1.ro; have h2 : s1.h = 0 + 1 := n1; have h1 : s1.ro = 0 := h1; omega)
    have g1' := k2.old _ _ (fun h => h) g1
    simp only [g3, asS_str, ifB_decide, if_neg h, cx, cy, unT_tup, nthS_zero, nthS_one, asI_int, call_one, call_rone, oneV, e1, tok, unA_agg, unc_cons, un0_nil, letSt_eq]
    simp only [e2, e3, beq_self_eq_true, ifB_true, loadS_mp g1', loadS_mp g2, List.drop_zero, takeO2, bindO_ok, unA_agg, unc_cons, asI_int, asS_str, un0_nil, eql_tok, Bool.and_self, asB_bool, cs]
end Go.Proofs.YtjppooaadaepjaaDoor.Vm
/- Tokens: the examples' helpers. -/
set_option maxRecDepth 100000
set_option linter.unusedSimpArgs false
namespace Go.Proofs.YtjppooaadaepjaaDoor.Vm
open Go Go.VM Go.Proofs Go.Lex

def letters : List UInt8 := [63, 98, 114, 119, 110, 105, 102, 116, 115, 33]
def kindsL (l : List (Nat × List UInt8)) : List UInt8 := l.map fun p => letters.getD p.1 0
def kindsS (s : List UInt8) : List UInt8 := if validS s then kindsL (tokens s) else [63]
theorem kinds_loop {x : AV} {es : List (Nat × List UInt8)} (hx : IsSl 2 x (es.map tok)) (hk : ∀ p ∈ es, p.1 ≤ 9) (st : St) : ∀ (l : List (Nat × List UInt8)) (j : Nat) (out : List UInt8), es.drop j = l → j ≤ 1000000 → l.length + j ≤ 1000000 → out.length = j →
    loopO (g13_L1 x) ([.str [], .str out, .int .i64 (j : Int)], st) = some (0, [.str [], .str (out ++ kindsL l)], st)
  | [], j, out, hd, _, _, _ => by
    have := List.drop_eq_nil_iff.1 hd
    have q : ¬ (j : Int) < ((es.map tok).length : Int) := by rw [List.length_map]; omega
    refine loopO_inr ?_
    simp only [g13_L1, unc_cons, asS_str, asI_int, un0_nil, hx.len, ifB_decide, if_neg q, kindsL, List.map_nil, List.append_nil]
  | p :: l, j, out, hd, hj, hj2, ho => by
    obtain ⟨hg, hr, hlt⟩ := drop_cons hd
    have hp := hk p (List.mem_of_getElem? hg)
    have q : (j : Int) < ((es.map tok).length : Int) := by rw [List.length_map]; omega
    have w1 : IntKind.wrap .i64 (p.1 : Int) = (p.1 : Int) := wrapN (by omega)
    have q2 : ¬ (p.1 : Int) > 9 := by omega
    have hcut : List.drop p.1 (List.take (p.1 + 1) [63, 98, 114, 119, 110, 105, 102, 116, 115, 33]) = [letters.getD p.1 0] := by
      obtain ⟨k, t⟩ := p
      have hp : k ≤ 9 := hp
      match k, hp with
      | 0, _ => rfl
      | 1, _ => rfl
      | 2, _ => rfl
      | 3, _ => rfl
      | 4, _ => rfl
      | 5, _ => rfl
      | 6, _ => rfl
      | 7, _ => rfl
      | 8, _ => rfl
      | 9, _ => rfl
    have f0 : ∀ {β : Type} (K : AV → Option β), fldA 0 (.ip [.int .u8 (p.1 : Int), .str p.2]) K = K (.ip [.int .u8 (p.1 : Int), .str p.2]) := fun K => rfl
    have ih := kinds_loop hx hk st l (j + 1) (out ++ [letters.getD p.1 0]) hr (by simp at hj2; omega) (by simp at hj2; omega) (by rw [List.length_append, ho]; rfl)
    rw [loopO_inl (s' := ([.str [], .str (out ++ [letters.getD p.1 0]), .int .i64 ((j + 1 : Nat) : Int)], st)), ih]
    · simp only [kindsL, List.map_cons, List.append_assoc]; rfl
    · simp only [g13_L1, unc_cons, asS_str, asI_int, un0_nil, hx.len, ifB_decide, if_pos q, toks_idx hx hg, f0, loadS_ip, takeO_one, bindO_ok, letV_eq, w1, if_neg q2, wrapA1 (show p.1 + 1 ≤ 9223372036854775807 by omega), uptoS_nat (show p.1 + 1 ≤ 10 by omega), uptoS_nat (show p.1 ≤ p.1 + 1 by omega), hcut, ble_of (show out.length + [letters.getD p.1 0].length ≤ 9223372036854775807 by rw [ho]; simp; omega), chk_true, wrapA1 (show j + 1 ≤ 9223372036854775807 by omega)]
theorem nameK_le (w : List UInt8) : nameK w ≤ 9 := by
  unfold nameK
  split
  · exact Nat.le_of_ble_eq_true rfl
  · split <;> exact Nat.le_of_ble_eq_true rfl
theorem txt_kind : ∀ s : List UInt8, (txt s).1 ≤ 9
  | [] => Nat.le_of_ble_eq_true rfl
  | [c] => by
    simp only [txt]
    split
    · exact Nat.le_of_ble_eq_true rfl
    · split <;> exact Nat.le_of_ble_eq_true rfl
  | c :: d :: l => by
    have h1 := txt_kind l
    have h2 := txt_kind (d :: l)
    simp only [txt]
    split
    · exact Nat.le_of_ble_eq_true rfl
    · split
      · exact Nat.le_of_ble_eq_true rfl
      · split
        · split
          · exact h1
          · exact Nat.le_of_ble_eq_true rfl
        · exact h2
theorem cut_kind (s : List UInt8) : (cut s).1 ≤ 9 := by
  cases s with
  | nil => exact Nat.le_of_ble_eq_true rfl
  | cons c l =>
    unfold cut
    dsimp only
    split
    · exact Nat.le_of_ble_eq_true rfl
    split
    · cases rem (List.drop 2 (c :: l)) 1 <;> exact Nat.le_of_ble_eq_true rfl
    split
    · exact nameK_le _
    split
    · have hnum : (number (c :: l)).1 ≤ 9 := by
        unfold number
        dsimp only
        split
        · split <;> exact Nat.le_of_ble_eq_true rfl
        · exact Nat.le_of_ble_eq_true rfl
      exact hnum
    split
    · exact txt_kind l
    split
    · exact Nat.le_of_ble_eq_true rfl
    split <;> exact Nat.le_of_ble_eq_true rfl
theorem toks_kind : ∀ (n : Nat) (s : List UInt8), ∀ p ∈ toks n s, p.1 ≤ 9
  | 0, _, p, h => by simp [toks] at h
  | n + 1, [], p, h => by simp [toks] at h
  | n + 1, c :: l, p, h => by
    simp only [toks, List.mem_cons] at h
    rcases h with rfl | h
    · exact cut_kind _
    · exact toks_kind n _ p h
theorem toks_len : ∀ (n : Nat) (s : List UInt8), s.length ≤ n → (toks n s).length ≤ s.length
  | 0, _, _ => by simp [toks]
  | n + 1, [], _ => by simp [toks]
  | n + 1, c :: l, h => by
    have hc := cut_le (s := c :: l) (by simp)
    have ih := toks_len n ((c :: l).drop (cut (c :: l)).2) (by rw [List.length_drop]; simp at h ⊢; omega)
    rw [List.length_drop] at ih
    simp only [toks, List.length_cons] at ih ⊢
    omega
theorem tokens_len (s : List UInt8) : (tokens s).length ≤ s.length := toks_len _ _ (Nat.le_refl _)
theorem kinds_ok {s : List UInt8} (hs : s.length ≤ 65536) : (orc vE).bare 13 [.str s] = some (.str (kindsS s)) := by
  refine bare_of rfl ((g13_eq _).trans ?_)
  cases hv : validS s with
  | false =>
    have c := fun {β : Type} (st : St) (K : Kv β) => callS_bare st K rfl rfl rfl (tokens_form hs hv)
    simp only [g13, asS_str, c, unT_tup, nthS_zero, nthS_one, asI_int, ifB_bne, show ¬ ((4 : Int) = 0) by omega, if_false, kindsS, hv, Bool.false_eq_true]
  | true =>
    obtain ⟨x, hx, h⟩ := tokens_ok hs hv
    have c := fun {β : Type} (st : St) (K : Kv β) => callS_bare st K rfl rfl rfl hx
    have hl := tokens_len s
    have e : loopO (g13_L1 x) ([.str [], .str [], .int .i64 0], St.mk 0 0 Tr.leaf) = _ := kinds_loop h (toks_kind _ _) (St.mk 0 0 Tr.leaf) (tokens s) 0 [] rfl (by omega) (by omega) rfl
    simp only [g13, asS_str, c, unT_tup, nthS_zero, nthS_one, asI_int, ifB_bne, if_true, kindsS, hv]
    rw [e]
    simp only [bindO_ok, unc_cons, asS_str, un0_nil, sel2_zero, List.nil_append]
theorem call_kinds {β : Type} {s : List UInt8} (hs : s.length ≤ 65536) (st : St) (K : Kv β) : callS (orc vE) 13 [.str s] st K = K (.str (kindsS s)) st q0 := callS_bare st K rfl rfl rfl (kinds_ok hs)
theorem works_ok : (orc vE).bare 12 [] = some (.bool true) := by
  refine bare_of rfl (g12_eq.trans ?_)
  have k0 : kindsS [108, 101, 116, 32, 120, 39, 32, 61, 32, 49, 46, 53, 101, 51, 32, 43, 46, 32, 95, 121, 32, 40, 42, 32, 97, 32, 40, 42, 32, 98, 32, 42, 41, 32, 42, 41] = [119, 98, 110, 98, 115, 98, 102, 98, 115, 98, 110, 98, 114] := by decide +kernel
  have c0 := fun {β : Type} (st : St) (K : Kv β) => call_kinds (s := [108, 101, 116, 32, 120, 39, 32, 61, 32, 49, 46, 53, 101, 51, 32, 43, 46, 32, 95, 121, 32, 40, 42, 32, 97, 32, 40, 42, 32, 98, 32, 42, 41, 32, 42, 41]) (by decide) st K
  have k1 : kindsS [34, 97, 92, 110, 34, 32] = [116, 98] := by decide +kernel
  have c1 := fun {β : Type} (st : St) (K : Kv β) => call_kinds (s := [34, 97, 92, 110, 34, 32]) (by decide) st K
  have k2 : kindsS [34, 97, 92, 113, 34, 32, 98, 34] = [33, 98, 110, 33] := by decide +kernel
  have c2 := fun {β : Type} (st : St) (K : Kv β) => call_kinds (s := [34, 97, 92, 113, 34, 32, 98, 34]) (by decide) st K
  have k3 : kindsS [34, 97, 10] = [33, 98] := by decide +kernel
  have c3 := fun {β : Type} (st : St) (K : Kv β) => call_kinds (s := [34, 97, 10]) (by decide) st K
  simp only [g12, c0, k0, c1, k1, c2, k2, c3, k3, asS_str, beq_self_eq_true, ifB_true, bindO_ok, unc_cons, asB_bool, un0_nil]
theorem call_works {β : Type} (st : St) (K : Kv β) : callS (orc vE) 12 [] st K = K (.bool true) st q0 := callS_bare st K rfl rfl rfl works_ok
theorem bytesOf_of : ∀ (s : List UInt8), bytesOf (ofBytes s) = .ok s
  | [] => rfl
  | b :: l => by
    have ih := bytesOf_of l
    simp only [ofBytes, List.map_cons] at ih ⊢
    simp only [bytesOf, ih, ok_bind]
    simp [pure_eq]
theorem make_bytes {n : Nat} (h : n ≤ 1000000) : makeSliceP (Env.T vE) 46 (.int .i64 0) (.int .i64 (n : Int)) = .ok (.new (.tok 0 5) fun k => .sl 1 [] (.own k)) := by
  have e1 : ti (Env.T vE) 46 = .ok ⟨.slice 5, 1, 24, [.nils], false, false⟩ := rfl
  have e2 : ti (Env.T vE) 5 = .ok ⟨.int .u8, 1, 1, [.int .u8 0], false, false⟩ := rfl
  have c : (Nat.ble 0 n && Nat.ble (n * 1) 16777216 && Nat.ble (1 * n) 281474976710656 && Nat.ble n 9223372036854775807 && Nat.ble 1 1) = true := by
    rw [Nat.ble_eq_true_of_le (Nat.zero_le n), Nat.ble_eq_true_of_le (show n * 1 ≤ 16777216 by omega), Nat.ble_eq_true_of_le (show 1 * n ≤ 281474976710656 by omega), Nat.ble_eq_true_of_le (show n ≤ 9223372036854775807 by omega)]; rfl
  have h0 : makeSliceP (Env.T vE) 46 (.int .i64 0) (.int .i64 (n : Int)) = (do let it ← ti (Env.T vE) 46; match it.und, AV.int .i64 (Int.ofNat 0), AV.int .i64 (Int.ofNat n) with
    | .slice e, .int _ (.ofNat l), .int _ (.ofNat c) => do
      let i ← ti (Env.T vE) e
      match l.ble c && (c * i.size).ble 16777216 && (i.bytes * c).ble 281474976710656 && c.ble 9223372036854775807 && Nat.ble 1 i.size with
      | true => match l.beq 0 with
        | true => pure (Plan.new (.tok 0 e) fun k => .sl i.size [] (.own k))
        | false => pure (Plan.new (.cells e (zeros i.zero c)) fun k => .ms k 0 i.size l c)
      | false => .error "make: size"
    | _, _, _ => .error "make: what?" : Res Plan) := rfl
  rw [h0]
  simp only [e1, e2, ok_bind, c]
  rfl
theorem conv_bytes (s : List UInt8) (p : Perm) : convertP (Env.T vE) 46 9 (.sl 1 (ofBytes s) p) = .ok (.val (.str s)) := by
  have e1 : ti (Env.T vE) 46 = .ok ⟨.slice 5, 1, 24, [.nils], false, false⟩ := rfl
  have e2 : ti (Env.T vE) 9 = .ok ⟨.str, 1, 16, [.str []], false, false⟩ := rfl
  have e3 : ti (Env.T vE) 5 = .ok ⟨.int .u8, 1, 1, [.int .u8 0], false, false⟩ := rfl
  simp only [convertP, e1, e2, e3, ok_bind, isByte, bytesOf_of, pure_eq]
theorem many_loop (n : Nat) (c : UInt8) (hn : n ≤ 1000000) : ∀ (k i : Nat) (v : AV) (st : St), i + k = n → Own st 1 5 v (ofBytes (List.replicate i c)) →
    ∃ v' st', loopO (g14_L1 (n : Int) [c]) ([v, .int .i64 (i : Int)], st) = some (0, [v'], st') ∧ Own st' 1 5 v' (ofBytes (List.replicate n c))
  | 0, i, v, st, hi, h => by
    have q : ¬ (i : Int) < (n : Int) := by omega
    have : i = n := by omega
    subst this
    refine ⟨v, st, loopO_inr ?_, h⟩
    simp only [g14_L1, unc_cons, asI_int, un0_nil, ifB_decide, if_neg q]
  | k + 1, i, v, st, hi, h => by
    have q : (i : Int) < (n : Int) := by omega
    have w1 : IntKind.wrap .i64 ((i : Int) + 1) = ((i + 1 : Nat) : Int) := by rw [← wrapN (n := i + 1) (by omega)]; rfl
    have hl : (ofBytes (List.replicate i c)).length = i := by rw [ofBytes_length, List.length_replicate]
    obtain ⟨v2, s2, o2, k2, x2, a2⟩ := own_app (b := 1) (.int .u8 (c.toNat : Int)) h (by
      rw [hl]
      simp only [roomOk, Nat.ble_eq_true_of_le (show (i + 1) * 1 ≤ 70368744177664 by omega), Nat.ble_eq_true_of_le (show i + 1 ≤ 70368744177664 by omega)]; rfl)
    have e : ofBytes (List.replicate i c) ++ [AV.int .u8 (c.toNat : Int)] = ofBytes (List.replicate (i + 1) c) := by
      rw [List.replicate_succ', ofBytes_append]; rfl
    rw [e] at o2
    obtain ⟨v', st', e', o'⟩ := many_loop n c hn k (i + 1) v2 s2 (by omega) o2
    refine ⟨v', st', ?_, o'⟩
    have a2 : ∀ {β : Type} (K : Kv β), appS 1 1 5 v (ofBytes [c]) st K = K v2 s2 x2 := fun K => a2 K
    rw [loopO_inl (s' := ([v2, .int .i64 ((i + 1 : Nat) : Int)], s2)), e']
    simp only [g14_L1, unc_cons, asI_int, un0_nil, ifB_decide, if_pos q, fitTs_bytes, sizes_bytes, chk_true, a2, letV_eq, w1]
theorem many_ok {n : Nat} (c : UInt8) (h1 : 1 ≤ n) (hn : n ≤ 1000000) : (orc vE).bare 14 [.int .i64 (n : Int), .str [c]] = some (.str (List.replicate n c)) := by
  refine bare_of rfl ((g14_eq _ _).trans ?_)
  have w1 : IntKind.wrap .i64 ((n : Int) * (([c].length : Nat) : Int)) = (n : Int) := by
    rw [show (n : Int) * (([c].length : Nat) : Int) = (n : Int) by simp]; exact wrapN (by omega)
  obtain ⟨v', st', e, o⟩ := many_loop n c hn n 0 (.sl 1 [] (.own 0)) (St.add (St.mk 0 0 Tr.leaf) (.tok 0 5)) (by omega) ⟨by simp [St.add_ro, St.add_h], Nat.zero_le _, .inr (.inr ⟨0, rfl, rfl, Nat.le_refl _⟩)⟩
  have e : loopO (g14_L1 (n : Int) [c]) ([.sl 1 [] (.own 0), .int .i64 0], St.add (St.mk 0 0 Tr.leaf) (.tok 0 5)) = _ := e
  have pm : ∀ {β : Type} (K : Kv β), planS (orc vE) (makeSliceP (Env.T vE) 46 (.int .i64 0) (.int .i64 (n : Int))) (St.mk 0 0 Tr.leaf) K = K (.sl 1 [] (.own 0)) (St.add (St.mk 0 0 Tr.leaf) (.tok 0 5)) ⟨[], .made 0 (.tok 0 5)⟩ := fun K => by
    rw [make_bytes hn]; rfl
  have hne : ofBytes (List.replicate n c) ≠ [] := by
    intro h
    have := congrArg List.length h
    rw [ofBytes_length, List.length_replicate] at this
    simp at this; omega
  obtain ⟨p, rfl⟩ : ∃ p, v' = .sl 1 (ofBytes (List.replicate n c)) p := by
    rcases o.2.2 with ⟨_, h⟩ | h | ⟨k, h, _⟩
    · exact absurd h hne
    · exact ⟨_, h⟩
    · exact ⟨_, h⟩
  have pc : ∀ {β : Type} (st : St) (K : Kv β), planS (orc vE) (convertP (Env.T vE) 46 9 (.sl 1 (ofBytes (List.replicate n c)) p)) st K = K (.str (List.replicate n c)) st q0 := fun st K => by
    rw [conv_bytes]; rfl
  simp only [g14, asI_int, asS_str, letV_eq, w1, pm]
  rw [e]
  simp only [bindO_ok, unc_cons, un0_nil, pc, asS_str, letV_eq]
theorem call_many {β : Type} {n : Nat} (c : UInt8) (h1 : 1 ≤ n) (hn : n ≤ 1000000) (st : St) (K : Kv β) : callS (orc vE) 14 [.int .i64 (n : Int), .str [c]] st K = K (.str (List.replicate n c)) st q0 := callS_bare st K rfl rfl rfl (many_ok c h1 hn)
/-- Do two tokens stand side by side? -/
def beqT (p a : Nat × List UInt8) : Bool := ((p.1 : Int) == (a.1 : Int)) && (p.2 == a.2)
def apartS (a b : Nat × List UInt8) : Bool := validS (a.2 ++ b.2) && match tokens (a.2 ++ b.2) with | [p, q] => beqT p a && beqT q b | _ => false
theorem apart_ok {a b : Nat × List UInt8} (h : a.2.length + b.2.length ≤ 65536) : (orc vE).bare 15 [tok a, tok b] = some (.bool (apartS a b)) := by
  refine bare_of rfl ((g15_eq _ _).trans ?_)
  have q1 : ¬ (a.2.length : Int) > 65536 := by omega
  have q2 : ¬ (b.2.length : Int) > 65536 := by omega
  have hl : (a.2 ++ b.2).length ≤ 65536 := by rw [List.length_append]; exact h
  unfold apartS
  cases hv : validS (a.2 ++ b.2) with
  | false =>
    have c := fun {β : Type} (st : St) (K : Kv β) => callS_bare st K rfl rfl rfl (tokens_form hl hv)
    simp only [g15, tok, unA_agg, unc_cons, asI_int, asS_str, un0_nil, ifB_decide, if_neg q1, decide_eq_false q2, bindO_ok, asB_bool, ifB_false, ble_of (show a.2.length + b.2.length ≤ 9223372036854775807 by omega), chk_true, letV_eq, c, unT_tup, nthS_zero, nthS_one, ifB_beq, show ¬ ((4 : Int) = 0) by omega, if_false, Bool.false_and]
  | true =>
    obtain ⟨x, hx, hs⟩ := tokens_ok hl hv
    have c := fun {β : Type} (st : St) (K : Kv β) => callS_bare st K rfl rfl rfl hx
    simp only [g15, tok, unA_agg, unc_cons, asI_int, asS_str, un0_nil, ifB_decide, if_neg q1, decide_eq_false q2, bindO_ok, asB_bool, ifB_false, ble_of (show a.2.length + b.2.length ≤ 9223372036854775807 by omega), chk_true, letV_eq, c, unT_tup, nthS_zero, nthS_one, ifB_beq, if_true, hs.len, Bool.true_and]
    match ht : tokens (a.2 ++ b.2) with
    | [] =>
      have hl : ¬ ((((([] : List (Nat × List UInt8)).map tok).length : Nat) : Int) = 2) := by simp
      simp only [if_neg hl, bindO_ok, unc_cons, asB_bool, un0_nil]
    | [p] =>
      have hl : ¬ ((((([p] : List (Nat × List UInt8)).map tok).length : Nat) : Int) = 2) := by simp
      simp only [if_neg hl, bindO_ok, unc_cons, asB_bool, un0_nil]
    | [p, q] =>
      rw [ht] at hs
      have hl : ((([p, q].map tok).length : Nat) : Int) = 2 := rfl
      have i0 : ∀ {β : Type} (st : St) (K : AV → List Nat → Option β), idxA 2 x 0 st K = K (.ip [.int .u8 (p.1 : Int), .str p.2]) [] := fun st K => toks_idx (es := [p, q]) (j := 0) hs rfl st K
      have i1 : ∀ {β : Type} (st : St) (K : AV → List Nat → Option β), idxA 2 x 1 st K = K (.ip [.int .u8 (q.1 : Int), .str q.2]) [] := fun st K => toks_idx (es := [p, q]) (j := 1) hs rfl st K
      simp only [if_pos hl, i0, i1, loadS_ip, takeO2, bindO_ok, unA_agg, unc_cons, asI_int, asS_str, un0_nil, eql_tok, asB_bool, beqT]
      cases ((p.1 : Int) == (a.1 : Int)) && (p.2 == a.2) <;> rfl
    | p :: q :: r :: l =>
      have hl : ¬ (((((p :: q :: r :: l).map tok).length : Nat) : Int) = 2) := by simp; omega
      simp only [if_neg hl, bindO_ok, unc_cons, asB_bool, un0_nil]
theorem call_apart {β : Type} {a b : Nat × List UInt8} (h : a.2.length + b.2.length ≤ 65536) (st : St) (K : Kv β) : callS (orc vE) 15 [tok a, tok b] st K = K (.bool (apartS a b)) st q0 := callS_bare st K rfl rfl rfl (apart_ok h)
theorem ahead_ok (a : Nat × List UInt8) : (orc vE).bare 16 [tok a] = some (.bool (((a.1 : Int) == 1) || ((a.1 : Int) == 2))) := by
  refine bare_of rfl ((g16_eq _).trans ?_)
  simp only [g16, tok, unA_agg, unc_cons, asI_int, asS_str, un0_nil]
  cases (a.1 : Int) == 1 <;> rfl
theorem call_ahead {β : Type} (a : Nat × List UInt8) (st : St) (K : Kv β) : callS (orc vE) 16 [tok a] st K = K (.bool (((a.1 : Int) == 1) || ((a.1 : Int) == 2))) st q0 := callS_bare st K rfl rfl rfl (ahead_ok a)
end Go.Proofs.YtjppooaadaepjaaDoor.Vm
/- Tokens: the law of tokens with a line's end between each two. -/
set_option maxRecDepth 100000
set_option linter.unusedSimpArgs false
set_option maxHeartbeats 1000000
namespace Go.Proofs.YtjppooaadaepjaaDoor.Vm
open Go Go.VM Go.Proofs Go.Lex

theorem own_cell {st : St} {z i : Nat} {e t : TypeId} {v : AV} {es cs : List AV} (h : Own st z e v es) (hg : st.get i = .ok (.cells t cs)) : ¬ ownerOf v i := by
  rintro ⟨z', es', rfl⟩
  rcases h with ⟨_, _, ⟨h | h, _⟩ | h | ⟨k, h, hk, _⟩⟩
  · cases h
  · cases h
  · cases h
  · cases h
    rw [hg] at hk; cases hk
theorem oneT_ok {l : List (Nat × List UInt8)} (h : (oneT l).2 = 0) : ∃ p, l = [p] ∧ oneT l = (p, 0) := by
  match l, h with
  | [p], _ => exact ⟨p, rfl, rfl⟩
  | [], h => exact absurd h (by decide)
  | p :: q :: l, h => exact absurd (show (4 : Int) = 0 from h) (by decide)
theorem oneK_ok {s : List UInt8} (h : (oneK s).2 = 0) : ∃ k, oneK s = ((k, s), 0) ∧ s ≠ [] ∧ validS s = true ∧ cut s = (k, s.length) := by
  by_cases h1 : 65536 < s.length
  · simp only [oneK, if_pos h1] at h; exact absurd h (by decide)
  · cases hv : validS s with
    | false => simp only [oneK, if_neg h1, hv, if_true] at h; exact absurd h (by decide)
    | true =>
      have e : oneK s = oneT (tokens s) := by simp only [oneK, if_neg h1, hv, Bool.true_eq_false, if_false]
      rw [e] at h ⊢
      obtain ⟨p, hp, ho⟩ := oneT_ok h
      have hne : s ≠ [] := by rintro rfl; rw [tokens_nil] at hp; cases hp
      have hc := cut_le hne
      rw [tokens_cons hne] at hp
      obtain ⟨p1, p2⟩ := List.cons.inj hp
      have hd : s.drop (cut s).2 = [] := by
        cases hd : s.drop (cut s).2 with
        | nil => rfl
        | cons c l => rw [hd, tokens_cons (by simp)] at p2; cases p2
      have hl := List.drop_eq_nil_iff.1 hd
      have h2 : (cut s).2 = s.length := by omega
      refine ⟨(cut s).1, ?_, hne, rfl, by rw [← h2]⟩
      rw [ho, ← p1, h2, List.take_of_length_le (Nat.le_refl _)]
/-- Is it left out? -/
def skips (k : Nat) (s : List UInt8) : Prop := k = 1 ∨ (k = 9 ∧ s.length > 1 ∧ s.take 2 = [40, 42])
instance (k : Nat) (s : List UInt8) : Decidable (skips k s) := by unfold skips; exact inferInstance
theorem good_of {k : Nat} {s : List UInt8} (h1 : s ≠ []) (h2 : validS s = true) (h3 : cut s = (k, s.length)) (h4 : ¬ skips k s) : Neat (k, s) :=
  ⟨h1, h2, h3, fun h => h4 (.inl h), fun h h9 => h4 (.inr ⟨h9, by
    have := congrArg List.length h
    rw [List.length_take] at this
    simp at this; omega, h⟩)⟩
theorem bet_loop {x : AV} {ss : List (List UInt8)} (hx : IsSl 1 x (ss.map AV.str)) : ∀ (l : List (List UInt8)) (j : Nat) (st : St) (v : AV) (G : List (Nat × List UInt8)), ss.drop j = l → j + l.length ≤ 60 → Own st 2 27 v ((wantOf G).map tok) → (∀ g ∈ G, Neat g) → (wantOf G).length ≤ 2 * j → (textOf G).length ≤ 301 * j →
    (∃ v' st' a, loopO (g4_L1 x) ([.bool false, v, .str (textOf G), .int .i64 (j : Int)], st) = some (1, [.bool true, v', .str a], st')) ∨
    (∃ v' st' G', loopO (g4_L1 x) ([.bool false, v, .str (textOf G), .int .i64 (j : Int)], st) = some (0, [.bool false, v', .str (textOf G')], st') ∧ Own st' 2 27 v' ((wantOf G').map tok) ∧ (∀ g ∈ G', Neat g) ∧ (wantOf G').length ≤ 120 ∧ (textOf G').length ≤ 18060)
  | [], j, st, v, G, hd, hj, ho, hg, hw, ht => by
    have := List.drop_eq_nil_iff.1 hd
    have q : ¬ (j : Int) < ((ss.map AV.str).length : Int) := by rw [List.length_map]; omega
    simp only [List.length_nil] at hj
    refine .inr ⟨v, st, G, loopO_inr ?_, ho, hg, by omega, by omega⟩
    simp only [g4_L1, unc_cons, asB_bool, asS_str, asI_int, un0_nil, hx.len, ifB_decide, if_neg q]
  | s :: l, j, st, v, G, hd, hj, ho, hg, hw, ht => by
    obtain ⟨hgs, hr, hlt⟩ := drop_cons hd
    simp only [List.length_cons] at hj
    have q : (j : Int) < ((ss.map AV.str).length : Int) := by rw [List.length_map]; omega
    have hi : ∀ {β : Type} (st : St) (K : AV → List Nat → Option β), idxA 1 x (j : Int) st K = K (.ip [.str s]) [] := fun st K => hx.idx (v := .str s) (by rw [List.getElem?_map, hgs]; rfl) st K
    by_cases h300 : (s.length : Int) > 300
    · refine .inl ⟨v, st, textOf G, loopO_inr ?_⟩
      simp only [g4_L1, unc_cons, asB_bool, asS_str, asI_int, un0_nil, hx.len, ifB_decide, if_pos q, hi, loadS_ip, takeO_one, bindO_ok, if_pos h300, onSum_inr]
    obtain ⟨⟨⟨k, t⟩, e⟩, hk⟩ : ∃ p, oneK s = p := ⟨_, rfl⟩
    have co : ∀ {β : Type} (st : St) (K : Kv β), callS (orc vE) 9 [.str s] st K = K (.tup [.agg [.int .u8 (k : Int), .str t], .int .i64 e]) st q0 := fun st K => by rw [call_one, oneV, hk]; rfl
    obtain ⟨s1, g1, k1, n1, fx1, e1⟩ := local_var (O := orc vE) (st := st) (t := 27) (z := 2) (old := [.int .u8 0, .str []]) (cs := [.int .u8 (k : Int), .str t]) (.agg [.int .u8 (k : Int), .str t]) rfl rfl ho.1
    have o1 := own_keep ho k1 (fun _ _ h => h)
    have w1 := wrapA1 (show j + 1 ≤ 9223372036854775807 by omega)
    have skip : ∀ (hs : g4_L1 x ([.bool false, v, .str (textOf G), .int .i64 (j : Int)], st) = some (.inl ([.bool false, v, .str (textOf G), .int .i64 ((j + 1 : Nat) : Int)], s1))), _ := fun hs => by
      have ih := bet_loop hx l (j + 1) s1 v G hr (by omega) o1 hg (by omega) (by omega)
      rw [← loopO_inl hs] at ih
      exact ih
    by_cases he : e = 0
    · subst he
      obtain ⟨k', hk', hne, hv, hcut⟩ := oneK_ok (s := s) (by rw [hk])
      rw [hk] at hk'
      cases hk'
      by_cases hs1 : k = 1
      · have z1 : ((k : Nat) : Int) = 1 := by omega
        refine skip ?_
        simp only [g4_L1, unc_cons, asB_bool, asS_str, asI_int, un0_nil, hx.len, ifB_decide, if_pos q, hi, loadS_ip, takeO_one, bindO_ok, if_neg h300, co, unT_tup, nthS_zero, nthS_one, unA_agg, letSt_eq, e1, ifB_bne, if_true, loadS_mp g1, List.drop_zero, ifB_beq, if_pos z1, ifB_true, onSum_inl, letV_eq, w1]
      · have z1 : ¬ ((k : Nat) : Int) = 1 := by omega
        have f2 : ∀ {β : Type} (K : AV → List Nat → Option β), loadS 1 false (AV.mp st.h 1) s1 K = K (.str s) [st.h] := fun K => by rw [loadS_mp g1]; rfl
        by_cases hs9 : k = 9 ∧ s.length > 1 ∧ s.take 2 = [40, 42]
        · obtain ⟨h9, hl1, ht2⟩ := hs9
          have z9 : ((k : Nat) : Int) = 9 := by omega
          have z2 : (s.length : Int) > 1 := by omega
          refine skip ?_
          simp only [g4_L1, unc_cons, asB_bool, asS_str, asI_int, un0_nil, hx.len, ifB_decide, if_pos q, hi, loadS_ip, takeO_one, bindO_ok, if_neg h300, co, unT_tup, nthS_zero, nthS_one, unA_agg, letSt_eq, e1, ifB_bne, if_true, loadS_mp g1, List.drop_zero, List.drop_succ_cons, ifB_beq, if_neg z1, if_pos z9, if_pos z2, ble_of (show 2 ≤ s.length by omega), chk_true, letV_eq, ht2, beq_self_eq_true, ifB_true, onSum_inl, w1]
        · have hgood := good_of hne hv hcut (show ¬ skips k s from fun h => h.elim hs1 hs9)
          -- the head: it is not left out
          have hhead : ∀ {β : Type} (K : List AV × St → Option β), (bindO (ifB (((0 : Int)) != 0) (some ([AV.bool true], s1)) (loadS 1 false (AV.mp st.h 0) s1 fun v56 _x => asI .u8 v56 fun n58 => ifB (n58 == 1) (some
              ([AV.bool true], s1)) (loadS 1 false (AV.mp st.h 0) s1 fun v59 _x => asI .u8 v59 fun n61 => ifB (n61 == 9) (loadS 1 false (AV.mp st.h 1) s1 fun v62 _x => asS v62 fun l64 => ifB (decide
              ((↑(List.length l64) : Int) > 1)) (loadS 1 false (AV.mp st.h 1) s1 fun v65 _x => asS v65 fun l67 => chk (Nat.ble 2 (List.length l67)) (letV (List.drop 0 (List.take 2 l67)) fun l68 => some ([AV.bool (l68 == [40,
              42])], s1))) (some ([AV.bool false], s1))) (some ([AV.bool false], s1))))) K) = K ([AV.bool false], s1) := by
            intro β K
            simp only [ifB_bne, if_true, loadS_mp g1, List.drop_zero, List.drop_succ_cons, takeO_one, bindO_ok, asI_int, asS_str, ifB_beq, if_neg z1]
            by_cases h9 : k = 9
            · have z9 : ((k : Nat) : Int) = 9 := by omega
              simp only [if_pos z9, ifB_decide]
              by_cases hl1 : (s.length : Int) > 1
              · have ht2 : (s.take 2 == [40, 42]) = false := by
                  rw [beq_eq_false_iff_ne]
                  exact fun h => hs9 ⟨h9, by omega, h⟩
                simp only [if_pos hl1, ble_of (show 2 ≤ s.length by omega), chk_true, letV_eq, ht2, bindO_ok]
              · simp only [if_neg hl1, bindO_ok]
            · have z9 : ¬ ((k : Nat) : Int) = 9 := by omega
              simp only [if_neg z9, bindO_ok]
          simp only [letV_eq, ifB_decide] at hhead
          cases G with
          | nil =>
            have ln := fun {β : Type} (K : Nat → Option β) => own_len o1 K
            have hln : ¬ (((((wantOf []).map tok).length : Nat) : Int) > 0) := by simp [wantOf]
            obtain ⟨v3, s3, o3, k3, x3, a3⟩ := own_app (b := 24) (tok (k, s)) o1 (room_of (by simp [wantOf]) (by omega) (by omega))
            have a3 : ∀ {β : Type} (K : Kv β), appS 2 24 27 v [.agg [.int .u8 (k : Int), .str s]] s1 K = K v3 s3 x3 := fun K => a3 K
            have g3 := k3.old _ _ (own_cell o1 g1) g1
            have hstep : g4_L1 x ([.bool false, v, .str (textOf []), .int .i64 (j : Int)], st) = some (.inl ([.bool false, v3, .str (textOf [(k, s)]), .int .i64 ((j + 1 : Nat) : Int)], s3)) := by
              simp only [g4_L1, unc_cons, asB_bool, asS_str, asI_int, un0_nil, hx.len, ifB_decide, if_pos q, hi, loadS_ip, takeO_one, bindO_ok, if_neg h300, co, unT_tup, nthS_zero, nthS_one, unA_agg, letSt_eq, e1]
              simp only [letV_eq, hhead]
              simp only [unc_cons, asB_bool, asS_str, un0_nil, ifB_false, ln, ifB_decide, if_neg hln, bindO_ok, loadS_mp g1, List.drop_zero, takeO2, unA_agg, asI_int, a3, loadS_mp g3, List.drop_succ_cons, takeO_one, textOf, List.nil_append, ble_of (show ([] : List UInt8).length + s.length ≤ 9223372036854775807 by simp; omega), chk_true, letV_eq, onSum_inl, w1]
            have ih := bet_loop hx l (j + 1) s3 v3 [(k, s)] hr (by omega) o3 (by intro g hm; rw [List.mem_singleton] at hm; rw [hm]; exact hgood) (by simp [wantOf]; omega) (by simp only [textOf]; omega)
            rw [← loopO_inl hstep] at ih
            exact ih
          | cons g0 G0 =>
            have ln := fun {β : Type} (K : Nat → Option β) => own_len o1 K
            have hpos := wantOf_pos g0 G0
            have hln : (((((wantOf (g0 :: G0)).map tok).length : Nat) : Int) > 0) := by rw [List.length_map]; omega
            obtain ⟨v2, s2, o2, k2, x2, a2⟩ := own_app (b := 24) (tok (1, [10])) o1 (room_of (by rw [List.length_map]; omega) (by omega) (by omega))
            have a2 : ∀ {β : Type} (K : Kv β), appS 2 24 27 v [.agg [.int .u8 1, .str [10]]] s1 K = K v2 s2 x2 := fun K => a2 K
            have g2 := k2.old _ _ (own_cell o1 g1) g1
            obtain ⟨v3, s3, o3, k3, x3, a3⟩ := own_app (b := 24) (tok (k, s)) o2 (room_of (by rw [List.length_append, List.length_map]; simp; omega) (by omega) (by omega))
            have a3 : ∀ {β : Type} (K : Kv β), appS 2 24 27 v2 [.agg [.int .u8 (k : Int), .str s]] s2 K = K v3 s3 x3 := fun K => a3 K
            have g3 := k3.old _ _ (own_cell o2 g2) g2
            have ht3 : textOf (g0 :: G0) ++ [10] ++ s = textOf (g0 :: G0 ++ [(k, s)]) := by rw [textOf_snoc, List.append_assoc]; rfl
            have hw3 : (wantOf (g0 :: G0)).map tok ++ [tok (1, [10])] ++ [tok (k, s)] = (wantOf (g0 :: G0 ++ [(k, s)])).map tok := by
              rw [wantOf_snoc, List.map_append, List.append_assoc]; rfl
            rw [hw3] at o3
            have hlt3 : (textOf (g0 :: G0 ++ [(k, s)])).length = (textOf (g0 :: G0)).length + 1 + s.length := by
              rw [← ht3, List.length_append, List.length_append]; rfl
            have hlw3 : (wantOf (g0 :: G0 ++ [(k, s)])).length = (wantOf (g0 :: G0)).length + 2 := by
              rw [wantOf_snoc, List.length_append]; rfl
            have hstep : g4_L1 x ([.bool false, v, .str (textOf (g0 :: G0)), .int .i64 (j : Int)], st) = some (.inl ([.bool false, v3, .str (textOf (g0 :: G0 ++ [(k, s)])), .int .i64 ((j + 1 : Nat) : Int)], s3)) := by
              rw [← ht3]
              generalize hT : textOf (g0 :: G0) = T at *
              have hb1 : Nat.ble (T.length + 1) 9223372036854775807 = true := ble_of (by omega)
              have hb2 : Nat.ble ((T ++ [10]).length + s.length) 9223372036854775807 = true := ble_of (by rw [List.length_append]; simp; omega)
              simp only [g4_L1, unc_cons, asB_bool, asS_str, asI_int, un0_nil, hx.len, ifB_decide, if_pos q, hi, loadS_ip, takeO_one, bindO_ok, if_neg h300, co, unT_tup, nthS_zero, nthS_one, unA_agg, letSt_eq, e1]
              simp only [letV_eq, hhead]
              simp only [unc_cons, asB_bool, asS_str, un0_nil, ifB_false, ln, ifB_decide, if_pos hln, a2, hb1, bindO_ok, loadS_mp g2, List.drop_zero, takeO2, unA_agg, asI_int, a3, loadS_mp g3, List.drop_succ_cons, takeO_one, hb2, chk_true, letV_eq, onSum_inl, w1]
            have ih := bet_loop hx l (j + 1) s3 v3 (g0 :: G0 ++ [(k, s)]) hr (by omega) o3 (by
              intro g hm
              rcases List.mem_append.1 hm with hm | hm
              · exact hg g hm
              · rw [List.mem_singleton] at hm; rw [hm]; exact hgood) (by omega) (by omega)
            rw [← loopO_inl hstep] at ih
            exact ih
    · refine skip ?_
      simp only [g4_L1, unc_cons, asB_bool, asS_str, asI_int, un0_nil, hx.len, ifB_decide, if_pos q, hi, loadS_ip, takeO_one, bindO_ok, if_neg h300, co, unT_tup, nthS_zero, nthS_one, unA_agg, letSt_eq, e1, ifB_bne, if_neg he, ifB_true, onSum_inl, letV_eq, w1]
theorem bet_same {v y : AV} {es : List (Nat × List UInt8)} {st : St} (hv : Own st 2 27 v (es.map tok)) (hy : IsSl 2 y (es.map tok)) : ∀ (l : List (Nat × List UInt8)) (j : Nat), es.drop j = l →
    loopO (g4_L2 v y) ([.bool false, .int .i64 (j : Int)], st) = some (0, [.bool false], st)
  | [], j, hd => by
    have := List.drop_eq_nil_iff.1 hd
    have q : ¬ (j : Int) < ((es.map tok).length : Int) := by rw [List.length_map]; omega
    refine loopO_inr ?_
    simp only [g4_L2, unc_cons, asB_bool, asI_int, un0_nil, hy.len, ifB_decide, if_neg q]
  | p :: l, j, hd => by
    obtain ⟨hg, hr, hlt⟩ := drop_cons hd
    have hl := hy.1
    rw [List.length_map] at hl
    have q : (j : Int) < ((es.map tok).length : Int) := by rw [List.length_map]; omega
    have hi : ∀ {β : Type} (st' : St) (K : AV → List Nat → Option β), idxA 2 v (j : Int) st' K = K (.ip [.int .u8 (p.1 : Int), .str p.2]) [] := fun st' K => own_idx hv (v := tok p) (by rw [List.getElem?_map, hg]; rfl) st' K
    rw [loopO_inl (s' := ([.bool false, .int .i64 ((j + 1 : Nat) : Int)], st)), bet_same hv hy l (j + 1) hr]
    simp only [g4_L2, unc_cons, asB_bool, asI_int, un0_nil, hy.len, ifB_decide, if_pos q, toks_idx hy hg, hi, loadS_ip, takeO2, bindO_ok, unA_agg, asS_str, neq_tok, beq_self_eq_true, Bool.and_self, Bool.not_true, ifB_false, letV_eq, wrapA1 (show j + 1 ≤ 9223372036854775807 by omega)]
theorem law_between {x : AV} {ss : List (List UInt8)} (hx : IsSl 1 x (ss.map AV.str)) : (orc vE).bare 4 [x] = some (.bool true) := by
  refine bare_of rfl ((g4_eq _).trans ?_)
  by_cases h : ((ss.map AV.str).length : Int) > 60
  · simp only [g4, call_works, asB_bool, Bool.not_true, ifB_false, hx.len, decide_eq_true h, bindO_ok, unc_cons, un0_nil, ifB_true]
  · have hl : ss.length ≤ 60 := by rw [List.length_map] at h; omega
    have hb := bet_loop hx ss 0 (St.mk 0 0 Tr.leaf) .nils [] rfl (by omega) (Own.nils (Nat.le_refl _) _ _) (by simp) (by simp [wantOf]) (by simp [textOf])
    rcases hb with ⟨v', st', a, e⟩ | ⟨v', st', G, e, o, hg, hw, ht⟩
    · have e : loopO (g4_L1 x) ([.bool false, .nils, .str [], .int .i64 0], St.mk 0 0 Tr.leaf) = _ := e
      simp only [g4, call_works, asB_bool, Bool.not_true, ifB_false, hx.len, decide_eq_false h, bindO_ok, unc_cons, un0_nil]
      rw [e]
      simp only [bindO_ok, unc_cons, asB_bool, asS_str, un0_nil, sel2_one]
    · have e : loopO (g4_L1 x) ([.bool false, .nils, .str [], .int .i64 0], St.mk 0 0 Tr.leaf) = _ := e
      obtain ⟨t1, t2⟩ := tokens_text G hg
      obtain ⟨y, hy, sy⟩ := tokens_ok (s := textOf G) (by omega) t2
      rw [t1] at sy
      have c := fun {β : Type} (st : St) (K : Kv β) => callS_bare st K rfl rfl rfl hy
      have hs := bet_same o sy (wantOf G) 0 rfl
      have hs : loopO (g4_L2 v' y) ([.bool false, .int .i64 0], st') = _ := hs
      have ln := fun {β : Type} (K : Nat → Option β) => own_len o K
      simp only [g4, call_works, asB_bool, Bool.not_true, ifB_false, hx.len, decide_eq_false h, bindO_ok, unc_cons, un0_nil]
      rw [e]
      simp only [bindO_ok, unc_cons, asB_bool, asS_str, un0_nil, sel2_zero, c, unT_tup, nthS_zero, nthS_one, asI_int, ifB_bne, if_true, sy.len, ln, bne_self_eq_false, ifB_false]
      rw [hs]
      simp only [bindO_ok, unc_cons, asB_bool, un0_nil, sel2_zero]
end Go.Proofs.YtjppooaadaepjaaDoor.Vm
/- Tokens: arguments. -/
set_option maxRecDepth 100000
namespace Go.Proofs.YtjppooaadaepjaaDoor.Vm
open Go Go.VM Go.Proofs

def lawS : List TypeId := [9, 32]
theorem lawS_ok : ∀ t, inS lawS t = true → okTy Tryd.prog lawS t = true := by
  intro t ht
  have : t ∈ lawS := by
    obtain ⟨u, hu, e⟩ := List.any_eq_true.1 ht
    rw [← Nat.eq_of_beq_eq_true e]; exact hu
  exact List.all_eq_true.1 (show (lawS.all fun t => okTy Tryd.prog lawS t) = true by kernel_rfl) t this
theorem av_str {n t : Nat} {cs : List AV} (hu : Tryd.prog.underlying t = some .string) (h : AvOf Tryd.prog n t cs) : ∃ s, cs = [.str s] ∧ s.length ≤ maxLen := by
  cases n with
  | zero => cases h
  | succ n => simp only [AvOf, hu] at h; exact h
theorem sl_of {n t e : Nat} {cs : List AV} {Q : AV → Prop} (hu : Tryd.prog.underlying t = some (.slice e)) (h : AvOf Tryd.prog n t cs) (hQ : ∀ a, AvOf Tryd.prog (n - 1) e a → Q (mkV (isSt Tryd.prog e) a)) :
    ∃ x es, cs = [x] ∧ IsSl (Tryd.prog.cellsOf e) x es ∧ ∀ v ∈ es, Q v := by
  cases n with
  | zero => cases h
  | succ n =>
    simp only [AvOf, hu] at h
    rcases h with rfl | rfl | ⟨L, rfl, hl, hL⟩
    · exact ⟨_, [], rfl, IsSl.nils, by simp⟩
    · exact ⟨_, [], rfl, IsSl.emp, by simp⟩
    · refine ⟨_, _, rfl, IsSl.wide (by rw [List.length_map]; simpa [maxLen] using hl), fun v hv => ?_⟩
      obtain ⟨a, ha, rfl⟩ := List.mem_map.1 hv
      exact hQ a (hL a ha)
theorem strs_of : ∀ {es : List AV}, (∀ v ∈ es, ∃ s : List UInt8, v = AV.str s) → ∃ ss : List (List UInt8), es = ss.map AV.str
  | [], _ => ⟨[], rfl⟩
  | v :: vs, h => by
    obtain ⟨d, rfl⟩ := h v (by simp)
    obtain ⟨ds, rfl⟩ := strs_of (es := vs) fun u hu => h u (List.mem_cons_of_mem _ hu)
    exact ⟨d :: ds, rfl⟩
end Go.Proofs.YtjppooaadaepjaaDoor.Vm
