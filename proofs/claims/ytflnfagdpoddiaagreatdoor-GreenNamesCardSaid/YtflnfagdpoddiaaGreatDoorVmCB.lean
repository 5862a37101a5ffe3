/-
  (A part of the proof: LexI, LexJ, LexK, LexLa, LexJo, GreenN, GreenA, GreenB, GreenC, GreenArg.)
-/
import Derived.Test.YtflnfagdpoddiaaGreatDoorVmCA
import Derived.Test.YtflnfagdpoddiaaGreatDoorVmAI
import Derived.Test.YtflnfagdpoddiaaGreatDoorVmBE
import Derived.Test.YtflnfagdpoddiaaGreatDoorVmBH
/- Tokens: the reference's numbers, cut. -/
set_option maxRecDepth 100000
set_option linter.unusedSimpArgs false
namespace Go.Proofs.YtflnfagdpoddiaaGreatDoor.Vm
open Go Go.VM Go.Proofs Go.Lex

theorem head_at (s : List UInt8) (n : Nat) (d : UInt8) (hd : d ≠ 0) : (s.getD n 0 == d) = decide ((s.drop n).head? = some d) := by
  cases h : s.drop n with
  | nil =>
    rw [at_nil h]
    simp
    exact fun e => hd e.symm
  | cons c l =>
    rw [at_cons h]
    by_cases e : c = d
    · subst e; simp
    · rw [beq_eq_false_iff_ne.2 e]
      simp [e]
/-- What the reference makes of an exponent. -/
theorem rexpo {s : List UInt8} (hs : s.length ≤ 1000000) (e : Nat) (pw : Int) (hp : -2000000 ≤ pw) (hp2 : pw ≤ 2000000) (he : e ≤ s.length) {β : Type} (st : St) (K : Car → Option β) :
    (bindO (callS (orc vE) 79 [AV.str s, AV.int .i64 (e : Int)] st fun v43 st44 _x => asI .u8 v43 fun n46 => ifB (n46 == 101) (some
 ([AV.bool true], st44)) (callS (orc vE) 79 [AV.str s, AV.int .i64 (e : Int)] st44 fun v47 st48 _x => asI .u8 v47 fun n50 => some ([AV.bool (n50 == 69)], st48))) fun c51 => unc (Prod.fst c51) fun v52 l53 => asB v52 fun b54 =>
 un0 l53 (bindO (ifB b54 (letV (IntKind.wrap .i64 ((e : Int) + 1)) fun n55 => callS (orc vE) 79 [AV.str s, AV.int .i64 n55] (Prod.snd c51) fun v56 st57 _x => asI .u8 v56 fun n59 => bindO (ifB (n59 == 45) (some ([AV.bool
 true], st57)) (callS (orc vE) 79 [AV.str s, AV.int .i64 n55] st57 fun v60 st61 _x => asI .u8 v60 fun n63 => some ([AV.bool (n63 == 43)], st61))) fun c64 => unc (Prod.fst c64) fun v65 l66 => asB v65 fun b67 => un0 l66
 (bindO (ifB b67 (letV (IntKind.wrap .i64 (n55 + 1)) fun n68 => some ([AV.int .i64 n68], Prod.snd c64)) (some ([AV.int .i64 n55], Prod.snd c64))) fun c69 => unc (Prod.fst c69) fun v70 l71 => asI .i64 v70 fun n72 => un0
 l71 (bindO (loopO (g86_L3 s) ([AV.int .i64 0, AV.int .i64 n72], Prod.snd c69)) fun c95 => unc (Prod.fst (Prod.snd c95)) fun v96 l97 => asI .i64 v96 fun n98 => unc l97 fun v99 l100 => asI .i64 v99 fun n101 => un0 l100
 (bindO (ifB (decide (n101 > n72)) (bindO (ifB (n59 == 45) (letV (IntKind.wrap .i64 (0 - n98)) fun n102 => some ([AV.int .i64 n102], Prod.snd (Prod.snd c95))) (some ([AV.int .i64 n98], Prod.snd (Prod.snd c95)))) fun c103
 => unc (Prod.fst c103) fun v104 l105 => asI .i64 v104 fun n106 => un0 l105 (letV (IntKind.wrap .i64 (pw + n106)) fun n107 => some ([AV.int .i64 n101, AV.int .i64 n107], Prod.snd c103))) (some ([AV.int .i64 (e : Int), AV.int .i64
 pw], Prod.snd (Prod.snd c95)))) fun c108 => unc (Prod.fst c108) fun v109 l110 => asI .i64 v109 fun n111 => unc l110 fun v112 l113 => asI .i64 v112 fun n114 => un0 l113 (some ([AV.int .i64 n111, AV.int .i64 n114],
 Prod.snd c108)))))) (some ([AV.int .i64 (e : Int), AV.int .i64 pw], Prod.snd c51))) K)) = K ([.int .i64 ((e + (expo (s.drop e)).1 : Nat) : Int), .int .i64 (pw + (expo (s.drop e)).2)], st) := by
  have a1 : ((((s.getD e 0).toNat : Nat) : Int) == 101) = (s.getD e 0 == 101) := byte_beq _ 101
  have a2 : ((((s.getD e 0).toNat : Nat) : Int) == 69) = (s.getD e 0 == 69) := byte_beq _ 69
  have w1 := wrapA1 (show e + 1 ≤ 9223372036854775807 by omega)
  have a3 : ((((s.getD (e + 1) 0).toNat : Nat) : Int) == 45) = (s.getD (e + 1) 0 == 45) := byte_beq _ 45
  have a4 : ((((s.getD (e + 1) 0).toNat : Nat) : Int) == 43) = (s.getD (e + 1) 0 == 43) := byte_beq _ 43
  have isE : ∀ (st : St) {γ : Type} (K : List AV × St → Option γ), bindO (ifB (s.getD e 0 == 101) (some ([AV.bool true], st)) (some ([AV.bool (s.getD e 0 == 69)], st))) K = K ([AV.bool (s.getD e 0 == 101 || s.getD e 0 == 69)], st) := by
    intro st γ K
    cases s.getD e 0 == 101 <;> rfl
  have isS : ∀ (st : St) {γ : Type} (K : List AV × St → Option γ), bindO (ifB (s.getD (e + 1) 0 == 45) (some ([AV.bool true], st)) (some ([AV.bool (s.getD (e + 1) 0 == 43)], st))) K = K ([AV.bool (isSgn (s.getD (e + 1) 0))], st) := by
    intro st γ K
    unfold isSgn
    cases s.getD (e + 1) 0 == 45 <;> cases s.getD (e + 1) 0 == 43 <;> rfl
  simp only [call_at, asI_int, a1, a2, isE, unc_cons, asB_bool, un0_nil]
  cases hd : s.drop e with
  | nil =>
    rw [at_nil hd]
    simp only [show ((0 : UInt8) == 101 || (0 : UInt8) == 69) = false from rfl, ifB_false, bindO_ok, expo]
    simp
  | cons c l =>
    obtain ⟨hg, hr, hlt⟩ := drop_cons hd
    rw [at_cons hd]
    by_cases hc : c = 101 ∨ c = 69
    · have hc' : (c == 101 || c == 69) = true := by simpa using hc
      have hsg : sgn l = if isSgn (s.getD (e + 1) 0) = true then 1 else 0 := by
        cases l with
        | nil => rw [at_nil hr]; rfl
        | cons d r => rw [at_cons hr]; rfl
      have hsl := sgn_le l
      have hll : l.length = s.length - (e + 1) := by rw [← hr, List.length_drop]
      have hmi : (s.getD (e + 1) 0 == 45) = decide (l.head? = some 45) := by rw [head_at s (e + 1) 45 (by decide), hr]
      have sg : ∀ (st : St) {γ : Type} (K : List AV × St → Option γ), bindO (ifB (isSgn (s.getD (e + 1) 0)) (some ([AV.int .i64 ((e + 1 + 1 : Nat) : Int)], st)) (some ([AV.int .i64 ((e + 1 : Nat) : Int)], st))) K = K ([AV.int .i64 ((e + 1 + sgn l : Nat) : Int)], st) := by
        intro st γ K
        rw [hsg]
        cases isSgn (s.getD (e + 1) 0) <;> rfl
      have hd2 : s.drop (e + 1 + sgn l) = l.drop (sgn l) := by rw [← hr, List.drop_drop]
      have lp := fun st => pow_loop hs st (l.drop (sgn l)) (e + 1 + sgn l) 0 hd2 (by omega)
      have lp : ∀ st, loopO (g86_L3 s) ([.int .i64 0, .int .i64 ((e + 1 + sgn l : Nat) : Int)], st) = _ := lp
      simp only [hc', ifB_true, letV_eq, w1, call_at, asI_int, a3, a4, isS, unc_cons, asB_bool, un0_nil, wrapA1 (show e + 1 + 1 ≤ 9223372036854775807 by omega), sg, lp, bindO_ok]
      have hx : numC 0 ((l.drop (sgn l)).take (wh isDig (l.drop (sgn l)))) = min (numV 0 ((l.drop (sgn l)).take (wh isDig (l.drop (sgn l))))) 1000000 := numC_min _ 0
      simp only [expo, if_pos hc]
      by_cases hz : wh isDig (l.drop (sgn l)) = 0
      · have q : ¬ (((e + 1 + sgn l + wh isDig (l.drop (sgn l)) : Nat) : Int) > ((e + 1 + sgn l : Nat) : Int)) := by omega
        simp only [ifB_decide, if_neg q, bindO_ok, unc_cons, asI_int, un0_nil, if_pos hz]
        simp
      · have q : (((e + 1 + sgn l + wh isDig (l.drop (sgn l)) : Nat) : Int) > ((e + 1 + sgn l : Nat) : Int)) := by omega
        simp only [ifB_decide, if_pos q, bindO_ok, unc_cons, asI_int, un0_nil, if_neg hz, hx, hmi]
        generalize hN : numV 0 ((l.drop (sgn l)).take (wh isDig (l.drop (sgn l)))) = N
        by_cases hm : l.head? = some 45
        · have w2 : IntKind.wrap .i64 (0 - ((min N 1000000 : Nat) : Int)) = -((min N 1000000 : Nat) : Int) := by
            rw [wrap_i64 (by omega) (by omega)]; omega
          have w3 : IntKind.wrap .i64 (pw + -((min N 1000000 : Nat) : Int)) = pw + -((min N 1000000 : Nat) : Int) := wrap_i64 (by omega) (by omega)
          simp only [if_pos hm, letV_eq, w2, bindO_ok, unc_cons, asI_int, un0_nil, w3]
          rw [show e + 1 + sgn l + wh isDig (l.drop (sgn l)) = e + (1 + sgn l + wh isDig (l.drop (sgn l))) by omega]
        · have w3 : IntKind.wrap .i64 (pw + ((min N 1000000 : Nat) : Int)) = pw + ((min N 1000000 : Nat) : Int) := wrap_i64 (by omega) (by omega)
          simp only [if_neg hm, letV_eq, bindO_ok, unc_cons, asI_int, un0_nil, w3]
          rw [show e + 1 + sgn l + wh isDig (l.drop (sgn l)) = e + (1 + sgn l + wh isDig (l.drop (sgn l))) by omega]
    · have hc' : (c == 101 || c == 69) = false := by simpa using hc
      simp only [hc', ifB_false, bindO_ok, expo, if_neg hc]
      simp
theorem expo_bound (s : List UInt8) : -1000000 ≤ (expo s).2 ∧ (expo s).2 ≤ 1000000 := by
  unfold expo
  split
  · simp
  · split
    · dsimp only
      split
      · simp
      · dsimp only
        split <;> omega
    · simp
theorem rnumber {s : List UInt8} (hs : s.length ≤ 1000000) (h1 : 1 ≤ wh isDig s) : (orc vE).bare 86 [.str s] = some (.tup [.int .u8 ((number s).1 : Int), .int .i64 ((number s).2 : Int)]) := by
  refine bare_of rfl ((g86_eq _).trans ?_)
  have l1 : loopO (g86_L1 s) ([.int .i64 0], St.mk 0 0 Tr.leaf) = some (0, [.int .i64 ((wh isDig s : Nat) : Int)], St.mk 0 0 Tr.leaf) := by
    have := num_loop1 hs (St.mk 0 0 Tr.leaf) (n := 0) (l := s) rfl
    rw [Nat.zero_add] at this
    exact this
  have hw := wh_le isDig s
  have hd := head_at s (wh isDig s) 46 (by decide)
  have hd' : ((((s.getD (wh isDig s) 0).toNat : Nat) : Int) != 46) = !(decide ((s.drop (wh isDig s)).head? = some 46)) := by
    unfold bne
    rw [← hd, show ((((s.getD (wh isDig s) 0).toNat : Nat) : Int) == 46) = (s.getD (wh isDig s) 0 == 46) from byte_beq _ 46]
  simp only [g86, asS_str, l1, bindO_ok, unc_cons, asI_int, un0_nil, call_at, hd']
  have hnum : number s = if (s.drop (wh isDig s)).head? = some 46 then (if wh isDig s + wh isDig (s.drop (wh isDig s + 1)) > 15 ∨ (expo (s.drop (wh isDig s + 1 + wh isDig (s.drop (wh isDig s + 1))))).2 - (wh isDig (s.drop (wh isDig s + 1)) : Int) < -22 ∨ (expo (s.drop (wh isDig s + 1 + wh isDig (s.drop (wh isDig s + 1))))).2 - (wh isDig (s.drop (wh isDig s + 1)) : Int) > 22 then 9 else 6, wh isDig s + 1 + wh isDig (s.drop (wh isDig s + 1)) + (expo (s.drop (wh isDig s + 1 + wh isDig (s.drop (wh isDig s + 1))))).1) else (5, wh isDig s) := rfl
  rw [hnum]
  by_cases h46 : (s.drop (wh isDig s)).head? = some 46
  · have hlt : wh isDig s < s.length := by
      rcases Nat.lt_or_ge (wh isDig s) s.length with q | q
      · exact q
      · rw [List.drop_of_length_le q] at h46; cases h46
    have l2 := num_loop2 hs (St.mk 0 0 Tr.leaf) (n := wh isDig s + 1) (l := s.drop (wh isDig s + 1)) rfl
    have hk := wh_le isDig (s.drop (wh isDig s + 1))
    rw [List.length_drop] at hk
    generalize hn : wh isDig s = n at *
    generalize hkk : wh isDig (s.drop (n + 1)) = k at *
    have w1 := wrapA1 (show n + 1 ≤ 9223372036854775807 by omega)
    have w2 : IntKind.wrap .i64 (((n + 1 : Nat) : Int) - ((n + 1 + k : Nat) : Int)) = -(k : Int) := by rw [wrap_i64 (by omega) (by omega)]; omega
    have w3 : IntKind.wrap .i64 (((n + 1 + k : Nat) : Int) - 1) = ((n + k : Nat) : Int) := by rw [wrap_i64 (by omega) (by omega)]; omega
    simp only [decide_eq_true h46, Bool.not_true, ifB_false, letV_eq, w1, l2, bindO_ok, unc_cons, asI_int, un0_nil, w2, w3, if_pos h46]
    have re := fun (K : Car → Option AV) => rexpo hs (n + 1 + k) (-(k : Int)) (by omega) (by omega) (by omega) (St.mk 0 0 Tr.leaf) K
    simp only [letV_eq] at re
    rw [re]
    have hb := expo_bound (s.drop (n + 1 + k))
    generalize (expo (s.drop (n + 1 + k))).1 = x1 at *
    generalize (expo (s.drop (n + 1 + k))).2 = x2 at *
    simp only [unc_cons, asI_int, un0_nil]
    by_cases c1 : n + k > 15
    · have q : ((n + k : Nat) : Int) > 15 := by omega
      simp only [ifB_decide, if_pos q, bindO_ok, unc_cons, asB_bool, un0_nil, ifB_true, if_pos (show n + k > 15 ∨ x2 - (k : Int) < -22 ∨ x2 - (k : Int) > 22 from .inl c1)]
      rfl
    · have q : ¬ ((n + k : Nat) : Int) > 15 := by omega
      by_cases c2 : x2 - (k : Int) < -22
      · have q2 : -(k : Int) + x2 < -22 := by omega
        simp only [ifB_decide, if_neg q, if_pos q2, bindO_ok, unc_cons, asB_bool, un0_nil, ifB_true, if_pos (show n + k > 15 ∨ x2 - (k : Int) < -22 ∨ x2 - (k : Int) > 22 from .inr (.inl c2))]
        rfl
      · have q2 : ¬ -(k : Int) + x2 < -22 := by omega
        by_cases c3 : x2 - (k : Int) > 22
        · have q3 : -(k : Int) + x2 > 22 := by omega
          simp only [ifB_decide, if_neg q, if_neg q2, if_pos q3, bindO_ok, unc_cons, asB_bool, un0_nil, if_pos (show n + k > 15 ∨ x2 - (k : Int) < -22 ∨ x2 - (k : Int) > 22 from .inr (.inr c3))]
          rfl
        · have q3 : ¬ -(k : Int) + x2 > 22 := by omega
          simp only [ifB_decide, if_neg q, if_neg q2, if_neg q3, bindO_ok, unc_cons, asB_bool, un0_nil, if_neg (show ¬ (n + k > 15 ∨ x2 - (k : Int) < -22 ∨ x2 - (k : Int) > 22) by omega)]
          rfl
  · simp only [decide_eq_false h46, Bool.not_false, ifB_true, if_neg h46]
    rfl
end Go.Proofs.YtflnfagdpoddiaaGreatDoor.Vm
/- Tokens: the reference's cut and its tokens. -/
set_option maxRecDepth 100000
set_option linter.unusedSimpArgs false
namespace Go.Proofs.YtflnfagdpoddiaaGreatDoor.Vm
open Go Go.VM Go.Proofs Go.Lex

def wordsL : AV := AV.sl 1 [AV.str [108, 101, 116], AV.str [114, 101, 99], AV.str [105, 110], AV.str [102, 117, 110], AV.str [105, 102], AV.str [116, 104, 101, 110], AV.str [101, 108, 115, 101], AV.str [109, 97, 116, 99, 104], AV.str [119, 105, 116, 104], AV.str [116, 114, 117, 101], AV.str [102, 97, 108, 115, 101], AV.str [109, 111, 100]] Perm.shut
def twosL : AV := AV.sl 1 [AV.str [45, 62], AV.str [58, 58], AV.str [60, 62], AV.str [60, 61], AV.str [62, 61], AV.str [43, 46], AV.str [45, 46], AV.str [42, 46], AV.str [47, 46], AV.str [38, 38], AV.str [124, 124]] Perm.shut
theorem strs_idx (l : List (List UInt8)) (hl : l.length ≤ 1000) {j : Nat} {w : List UInt8} (h : l[j]? = some w) {β : Type} (st : St) (K : AV → List Nat → Option β) : idxA 1 (AV.sl 1 (l.map AV.str) .shut) (j : Int) st K = K (.ip [.str w]) [] :=
  (IsSl.shut (z := 1) (es := l.map AV.str) (by rw [List.length_map]; omega)).idx (by rw [List.getElem?_map, h]; rfl) st K
theorem words_idx {j : Nat} {w : List UInt8} (h : words[j]? = some w) {β : Type} (st : St) (K : AV → List Nat → Option β) : idxA 1 wordsL (j : Int) st K = K (.ip [.str w]) [] := strs_idx words (by decide) h st K
theorem twos_idx {j : Nat} {w : List UInt8} (h : twos[j]? = some w) {β : Type} (st : St) (K : AV → List Nat → Option β) : idxA 1 twosL (j : Int) st K = K (.ip [.str w]) [] := strs_idx twos (by decide) h st K
theorem word_loop (w : List UInt8) (st : St) : ∀ (l : List (List UInt8)) (j : Nat), words.drop j = l → l.length + j = 12 →
    loopO (g84_L1 w) ([.bool false, .int .i64 (j : Int)], st) = some (if l.contains w then (1, [.bool true], st) else (0, [.bool false], st))
  | [], j, hd, hj => by
    have q : ¬ (j : Int) < 12 := by simp at hj; omega
    refine loopO_inr ?_
    simp only [g84_L1, unc_cons, asB_bool, asI_int, un0_nil, ifB_decide, if_neg q]
    rfl
  | x :: l, j, hd, hj => by
    obtain ⟨hg, hr, hlt⟩ := drop_cons hd
    have q : (j : Int) < 12 := by simp at hj; omega
    have hidx := fun {β : Type} (st : St) (K : AV → List Nat → Option β) => words_idx hg st K
    unfold wordsL at hidx
    rw [List.contains_cons, BEq.comm]
    cases hx : x == w with
    | true =>
      refine loopO_inr ?_
      simp only [g84_L1, unc_cons, asB_bool, asI_int, un0_nil, ifB_decide, if_pos q, hidx, loadS_ip, takeO_one, bindO_ok, asS_str, hx, ifB_true, Bool.true_or, if_true]
    | false =>
      rw [loopO_inl (s' := ([.bool false, .int .i64 ((j + 1 : Nat) : Int)], st)), word_loop w st l (j + 1) hr (by simp at hj; omega), Bool.false_or]
      simp only [g84_L1, unc_cons, asB_bool, asI_int, un0_nil, ifB_decide, if_pos q, hidx, loadS_ip, takeO_one, bindO_ok, asS_str, hx, ifB_false, letV_eq, wrapA1 (show j + 1 ≤ 9223372036854775807 by simp at hj; omega)]
theorem rword (w : List UInt8) : (orc vE).bare 84 [.str w] = some (.bool (words.contains w)) := by
  refine bare_of rfl ((g84_eq _).trans ?_)
  have e : loopO (g84_L1 w) ([.bool false, .int .i64 0], St.mk 0 0 Tr.leaf) = _ := word_loop w (St.mk 0 0 Tr.leaf) words 0 rfl rfl
  simp only [g84, asS_str]
  rw [e]
  cases words.contains w <;> rfl
theorem call_rword {β : Type} (w : List UInt8) (st : St) (K : Kv β) : callS (orc vE) 84 [.str w] st K = K (.bool (words.contains w)) st q0 := callS_bare st K rfl rfl rfl (rword w)
theorem twos_len {t : List UInt8} {j : Nat} (h : twos[j]? = some t) : t.length = 2 := by
  have hm := List.mem_of_getElem? h
  simp only [twos, List.mem_cons, List.not_mem_nil, or_false] at hm
  rcases hm with rfl | rfl | rfl | rfl | rfl | rfl | rfl | rfl | rfl | rfl | rfl <;> rfl
theorem two_loop (s : List UInt8) (st : St) : ∀ (l : List (List UInt8)) (j : Nat), twos.drop j = l → l.length + j = 11 →
    loopO (g63_L3 s) ([.int .u8 0, .int .i64 0, .int .i64 (j : Int)], st) = some (if l.contains (s.take 2) then (1, [.int .u8 8, .int .i64 2], st) else (0, [.int .u8 0, .int .i64 0], st))
  | [], j, hd, hj => by
    have q : ¬ (j : Int) < 11 := by simp at hj; omega
    refine loopO_inr ?_
    simp only [g63_L3, unc_cons, asI_int, un0_nil, ifB_decide, if_neg q]
    rfl
  | x :: l, j, hd, hj => by
    obtain ⟨hg, hr, hlt⟩ := drop_cons hd
    have q : (j : Int) < 11 := by simp at hj; omega
    have hidx := fun {β : Type} (st : St) (K : AV → List Nat → Option β) => twos_idx hg st K
    have hh := fun {β : Type} (st : St) (K : Kv β) => call_has0 s (twos_len hg) st K
    unfold twosL at hidx
    rw [List.contains_cons]
    cases hx : s.take 2 == x with
    | true =>
      refine loopO_inr ?_
      simp only [g63_L3, unc_cons, asI_int, un0_nil, ifB_decide, if_pos q, hidx, loadS_ip, takeO_one, bindO_ok, asS_str, hh, hx, asB_bool, ifB_true, Bool.true_or, if_true]
    | false =>
      rw [loopO_inl (s' := ([.int .u8 0, .int .i64 0, .int .i64 ((j + 1 : Nat) : Int)], st)), two_loop s st l (j + 1) hr (by simp at hj; omega), Bool.false_or]
      simp only [g63_L3, unc_cons, asI_int, un0_nil, ifB_decide, if_pos q, hidx, loadS_ip, takeO_one, bindO_ok, asS_str, hh, hx, asB_bool, ifB_false, letV_eq, wrapA1 (show j + 1 ≤ 9223372036854775807 by simp at hj; omega)]
theorem one_loop (c : UInt8) (st : St) : ∀ (l : List UInt8) (j : Nat), ones1.drop j = l → l.length + j = 16 →
    loopO (g63_L4 c) ([.int .u8 0, .int .i64 0, .int .i64 (j : Int)], st) = some (if l.contains c then (1, [.int .u8 8, .int .i64 1], st) else (0, [.int .u8 0, .int .i64 0], st))
  | [], j, hd, hj => by
    have q : ¬ (j : Int) < 16 := by simp at hj; omega
    refine loopO_inr ?_
    simp only [g63_L4, unc_cons, asI_int, un0_nil, ifB_decide, if_neg q]
    rfl
  | x :: l, j, hd, hj => by
    obtain ⟨hg, hr, hlt⟩ := drop_cons hd
    have q : (j : Int) < 16 := by simp at hj; omega
    have hi := fun {β : Type} (K : UInt8 → Option β) => idxStr_nat hlt K
    have he : ones1[j] = x := getElem_of hlt hg
    rw [he] at hi
    unfold ones1 at hi
    have hb := byte_beq x c
    rw [List.contains_cons, BEq.comm]
    cases hx : x == c with
    | true =>
      rw [hx] at hb
      refine loopO_inr ?_
      simp only [g63_L4, unc_cons, asI_int, un0_nil, ifB_decide, if_pos q, hi, hb, ifB_true, Bool.true_or, if_true]
    | false =>
      rw [hx] at hb
      rw [loopO_inl (s' := ([.int .u8 0, .int .i64 0, .int .i64 ((j + 1 : Nat) : Int)], st)), one_loop c st l (j + 1) hr (by simp at hj; omega), Bool.false_or]
      simp only [g63_L4, unc_cons, asI_int, un0_nil, ifB_decide, if_pos q, hi, hb, ifB_false, letV_eq, wrapA1 (show j + 1 ≤ 9223372036854775807 by simp at hj; omega)]
theorem rcut {s : List UInt8} (hne : s ≠ []) (hs : s.length ≤ 1000000) : (orc vE).bare 63 [.str s] = some (.tup [.int .u8 ((cut s).1 : Int), .int .i64 ((cut s).2 : Int)]) := by
  cases s with
  | nil => exact absurd rfl hne
  | cons c l =>
  refine bare_of rfl ((g63_eq _).trans ?_)
  have i0 : ∀ {β : Type} (K : UInt8 → Option β), idxStr (c :: l) 0 K = K c := fun K => idxStr_nat (k := 0) (by simp) K
  have hh := fun {β : Type} (st : St) (K : Kv β) => call_has0 (c :: l) (t := [40, 42]) rfl st K
  simp only [g63, asS_str, i0, call_rblank, asB_bool]
  unfold cut
  dsimp only
  cases hb : isBlank c with
  | true =>
    have e : loopO (g63_L1 (c :: l)) ([.int .i64 0], St.mk 0 0 Tr.leaf) = some (0, [.int .i64 ((wh isBlank (c :: l) : Nat) : Int)], St.mk 0 0 Tr.leaf) := by
      have := cut_loop1 hs (St.mk 0 0 Tr.leaf) (n := 0) (l := c :: l) rfl
      rw [Nat.zero_add] at this
      exact this
    simp only [ifB_true, e, bindO_ok, unc_cons, asI_int, un0_nil, if_true]
    rfl
  | false =>
  simp only [ifB_false, hh, asB_bool, Bool.false_eq_true, if_false]
  by_cases hr : (c :: l).take 2 = [40, 42]
  · have hr' : ((c :: l).take 2 == [40, 42]) = true := beq_iff_eq.2 hr
    have hl : 2 ≤ (c :: l).length := by
      have := congrArg List.length hr
      rw [List.length_take] at this
      simp at this; simp; omega
    have e := fun {β : Type} (st : St) (K : Kv β) => callS_bare st K rfl rfl rfl (rremark_ok hs hl)
    simp only [hr', ifB_true, e, if_pos hr]
    cases rem (List.drop 2 (c :: l)) 1 with
    | some n => simp only [unT_tup, nthS_zero, nthS_one, asI_int, asB_bool, ifB_true]; rfl
    | none => simp only [unT_tup, nthS_zero, nthS_one, asI_int, asB_bool, ifB_false]; rfl
  have hr' : ((c :: l).take 2 == [40, 42]) = false := beq_eq_false_iff_ne.2 hr
  simp only [hr', ifB_false, if_neg hr, call_rlow, asB_bool]
  cases hlo : isLow c with
  | true =>
    have e : loopO (g63_L2 (c :: l)) ([.int .i64 0], St.mk 0 0 Tr.leaf) = some (0, [.int .i64 ((wh isBeh (c :: l) : Nat) : Int)], St.mk 0 0 Tr.leaf) := by
      have := cut_loop2 hs (St.mk 0 0 Tr.leaf) (n := 0) (l := c :: l) rfl
      rw [Nat.zero_add] at this
      exact this
    have hw := wh_take isBeh (c :: l)
    simp only [ifB_true, e, bindO_ok, unc_cons, asI_int, un0_nil, uptoS_nat (wh_le isBeh (c :: l)), List.drop_zero, letV_eq, hw, call_rword, asB_bool, if_true]
    unfold nameK
    by_cases h1 : (c :: l).takeWhile isBeh = [95]
    · have h2 : wh isBeh (c :: l) = 1 := by
        show ((c :: l).takeWhile isBeh).length = 1
        rw [h1]; rfl
      rw [h1, h2]; rfl
    · rw [beq_eq_false_iff_ne.2 h1, if_neg h1]
      cases words.contains ((c :: l).takeWhile isBeh) <;> rfl
  | false =>
  simp only [ifB_false, Bool.false_eq_true, if_false, call_rdigit, asB_bool]
  cases hdi : isDig c with
  | true =>
    have e := fun {β : Type} (st : St) (K : Kv β) => callS_bare st K rfl rfl rfl (rnumber hs (by rw [wh_cons, if_pos hdi]; omega))
    simp only [ifB_true, e, unT_tup, nthS_zero, nthS_one, asI_int, if_true]
  | false =>
  have b34 : ((c.toNat : Int) == 34) = (c == 34) := byte_beq c 34
  simp only [ifB_false, Bool.false_eq_true, if_false, b34]
  by_cases hq : c = 34
  · have hq' : (c == 34) = true := beq_iff_eq.2 hq
    have e := fun {β : Type} (st : St) (K : Kv β) => callS_bare st K rfl rfl rfl (rtext_ok (c := c) hs)
    simp only [hq', ifB_true, e, unT_tup, nthS_zero, nthS_one, asI_int, if_pos hq]
  have hq' : (c == 34) = false := beq_eq_false_iff_ne.2 hq
  have e3 : loopO (g63_L3 (c :: l)) ([.int .u8 0, .int .i64 0, .int .i64 0], St.mk 0 0 Tr.leaf) = _ := two_loop (c :: l) (St.mk 0 0 Tr.leaf) twos 0 rfl rfl
  simp only [hq', ifB_false, if_neg hq]
  rw [e3]
  cases ht : twos.contains ((c :: l).take 2) with
  | true => rfl
  | false =>
  have e4 : loopO (g63_L4 c) ([.int .u8 0, .int .i64 0, .int .i64 0], St.mk 0 0 Tr.leaf) = some (if isOne c then (1, [.int .u8 8, .int .i64 1], St.mk 0 0 Tr.leaf) else (0, [.int .u8 0, .int .i64 0], St.mk 0 0 Tr.leaf)) := one_loop c (St.mk 0 0 Tr.leaf) ones1 0 rfl rfl
  simp only [Bool.false_eq_true, if_false, bindO_ok, unc_cons, asI_int, un0_nil, sel2_zero]
  rw [e4]
  cases ho : isOne c with
  | true => rfl
  | false =>
  obtain ⟨p, e, _⟩ := ref_rune (s := c :: l) (by simp)
  have e := fun {β : Type} (st : St) (K : Kv β) => callS_bare st K rfl rfl rfl e
  simp only [Bool.false_eq_true, if_false, bindO_ok, unc_cons, asI_int, un0_nil, sel2_zero, e, unT_tup, nthS_zero, nthS_one]
  rfl
theorem rtoks_loop : ∀ (n : Nat) (s : List UInt8) (st : St) (v : AV) (es : List AV), s.length ≤ n → n ≤ 500000 → Own st 2 23 v es → es.length + n ≤ 500000 →
    ∃ v' st', loopO g37_L1 ([v, .str s], st) = some (0, [v'], st') ∧ Own st' 2 23 v' (es ++ (tokens s).map tok)
  | n, [], st, v, es, _, _, ho, _ => by
    refine ⟨v, st, loopO_inr ?_, by simpa [tokens_nil] using ho⟩
    simp only [g37_L1, unc_cons, asS_str, un0_nil, show (!(([] : List UInt8) == [])) = false from rfl, ifB_false]
  | 0, c :: l, _, _, _, h, _, _, _ => by simp at h
  | n + 1, c :: l, st, v, es, h, hn, ho, he => by
    have hc := cut_le (s := c :: l) (by simp)
    have hcut := fun {β : Type} (st : St) (K : Kv β) => callS_bare st K rfl rfl rfl (rcut (s := c :: l) (by simp) (by omega))
    obtain ⟨v1, st1, o1, k1, x1, a1⟩ := own_app (b := 24) (tok ((cut (c :: l)).1, (c :: l).take (cut (c :: l)).2)) ho (room_of (by omega) (by omega) (by omega))
    have a1 : ∀ {β : Type} (K : Kv β), appS 2 24 23 v [.agg [.int .u8 ((cut (c :: l)).1 : Int), .str ((c :: l).take (cut (c :: l)).2)]] st K = K v1 st1 x1 := fun K => a1 K
    have hd : ((c :: l).drop (cut (c :: l)).2).length ≤ n := by rw [List.length_drop]; omega
    obtain ⟨v2, st2, e2, o2⟩ := rtoks_loop n ((c :: l).drop (cut (c :: l)).2) st1 v1 _ hd (by omega) o1 (by rw [List.length_append]; simp; omega)
    refine ⟨v2, st2, ?_, ?_⟩
    · rw [loopO_inl (s' := ([v1, .str ((c :: l).drop (cut (c :: l)).2)], st1)), e2]
      simp only [g37_L1, unc_cons, asS_str, un0_nil, show (!((c :: l : List UInt8) == [])) = true from rfl, ifB_true, hcut, unT_tup, nthS_zero, nthS_one, asI_int, uptoS_nat hc.2, List.drop_zero, letV_eq, a1, List.take_length]
    · rw [tokens_cons (by simp), List.map_cons]
      rw [List.append_assoc] at o2
      exact o2
theorem call_rvalid {β : Type} (s : List UInt8) (st : St) (K : Kv β) : callS (orc vE) 62 [.str s] st K = K (.bool (validS s)) st q0 := callS_bare st K rfl rfl rfl (ref_valid s)
theorem rtokens_large {s : List UInt8} (h : 65536 < s.length) : (orc vE).bare 37 [.str s] = some (.tup [.nils, .int .i64 40]) := by
  refine bare_of rfl ((g37_eq _).trans ?_)
  have q : (s.length : Int) > 65536 := by omega
  simp only [g37, asS_str, ifB_decide, if_pos q]
theorem rtokens_form {s : List UInt8} (h : s.length ≤ 65536) (hv : validS s = false) : (orc vE).bare 37 [.str s] = some (.tup [.nils, .int .i64 4]) := by
  refine bare_of rfl ((g37_eq _).trans ?_)
  have q : ¬ (s.length : Int) > 65536 := by omega
  simp only [g37, asS_str, ifB_decide, if_neg q, call_rvalid, hv, asB_bool, Bool.not_false, ifB_true]
theorem rtokens_ok {s : List UInt8} (h : s.length ≤ 65536) (hv : validS s = true) : ∃ x, (orc vE).bare 37 [.str s] = some (.tup [x, .int .i64 0]) ∧ IsSl 2 x ((tokens s).map tok) := by
  have q : ¬ (s.length : Int) > 65536 := by omega
  obtain ⟨v', st', e, o⟩ := rtoks_loop s.length s (St.mk 0 0 Tr.leaf) .nils [] (Nat.le_refl _) (by omega) (Own.nils (Nat.le_refl _) _ _) (by simp; omega)
  rw [List.nil_append] at o
  obtain ⟨x, hx, hf⟩ := frz_own2 o (fz_int .i64 0) rfl
  refine ⟨x, bare_of rfl ((g37_eq _).trans ?_), hx⟩
  simp only [g37, asS_str, ifB_decide, if_neg q, call_rvalid, hv, asB_bool, Bool.not_true, ifB_false, e, bindO_ok, unc_cons, un0_nil, hf]
end Go.Proofs.YtflnfagdpoddiaaGreatDoor.Vm
/- Tokens: one token; the law of tokens. -/
set_option maxRecDepth 100000
set_option linter.unusedSimpArgs false
namespace Go.Proofs.YtflnfagdpoddiaaGreatDoor.Vm
open Go Go.VM Go.Proofs Go.Lex

end Go.Proofs.YtflnfagdpoddiaaGreatDoor.Vm
/- Tokens: the reference's one token. -/
set_option maxRecDepth 100000
set_option linter.unusedSimpArgs false
namespace Go.Proofs.YtflnfagdpoddiaaGreatDoor.Vm
open Go Go.VM Go.Proofs Go.Lex

/-- What both make of a text: the tokens, or nothing. -/
theorem both (s : List UInt8) : ∃ (x y : AV) (es : List (Nat × List UInt8)) (e : Int), (orc vE).bare 34 [.str s] = some (.tup [x, .int .i64 e]) ∧ (orc vE).bare 37 [.str s] = some (.tup [y, .int .i64 e]) ∧ IsSl 2 x (es.map tok) ∧ IsSl 2 y (es.map tok) := by
  by_cases h1 : 65536 < s.length
  · exact ⟨.nils, .nils, [], 40, tokens_large h1, rtokens_large h1, IsSl.nils, IsSl.nils⟩
  · cases hv : validS s with
    | false => exact ⟨.nils, .nils, [], 4, tokens_form (by omega) hv, rtokens_form (by omega) hv, IsSl.nils, IsSl.nils⟩
    | true =>
      obtain ⟨x, hx, h⟩ := tokens_ok (by omega) hv
      obtain ⟨y, hy, k⟩ := rtokens_ok (by omega) hv
      exact ⟨x, y, tokens s, 0, hx, hy, h, k⟩
end Go.Proofs.YtflnfagdpoddiaaGreatDoor.Vm
/- Tokens: put together. -/
set_option maxRecDepth 100000
set_option linter.unusedSimpArgs false
set_option maxHeartbeats 1000000
namespace Go.Proofs.YtflnfagdpoddiaaGreatDoor.Vm
open Go Go.VM Go.Proofs Go.Lex

end Go.Proofs.YtflnfagdpoddiaaGreatDoor.Vm
/- Nodes as values (for chapters ahead of the parser). -/
set_option maxRecDepth 100000
set_option linter.unusedSimpArgs false
namespace Go.Proofs.YtflnfagdpoddiaaGreatDoor.Vm
open Go Go.VM Go.Proofs Go.Lex Go.Parse

mutual
/-- A tree that never changes. -/
def IsN : T → AV → Prop
  | .mk k tk tx l, v => ∃ x es, v = .agg [.int .u8 (k : Int), .int .u8 (tk : Int), .str tx, x] ∧ IsSl 4 x es ∧ IsNs l es
def IsNs : List T → List AV → Prop
  | [], es => es = []
  | t :: l, es => ∃ e r, es = e :: r ∧ IsN t e ∧ IsNs l r
end
theorem IsNs.nil : IsNs [] [] := by simp only [IsNs]
theorem IsNs.cons {t : T} {l : List T} {e : AV} {r : List AV} (h : IsN t e) (hs : IsNs l r) : IsNs (t :: l) (e :: r) := by
  simp only [IsNs]; exact ⟨e, r, rfl, h, hs⟩
theorem IsNs.app : ∀ {l m : List T} {es fs : List AV}, IsNs l es → IsNs m fs → IsNs (l ++ m) (es ++ fs)
  | [], _, _, _, h, k => by simp only [IsNs] at h; subst h; exact k
  | t :: l, _, _, _, h, k => by
    simp only [IsNs] at h
    obtain ⟨e, r, rfl, h1, h2⟩ := h
    exact IsNs.cons h1 (IsNs.app h2 k)
theorem IsNs.len : ∀ {l : List T} {es : List AV}, IsNs l es → es.length = l.length
  | [], _, h => by simp only [IsNs] at h; subst h; rfl
  | t :: l, _, h => by
    simp only [IsNs] at h
    obtain ⟨e, r, rfl, h1, h2⟩ := h
    simp [IsNs.len h2]
/-- Children, which may be appended to or not. -/
def IsK (x : AV) (es : List AV) : Prop := IsSl 4 x es ∨ (es.length ≤ 9223372036854775807 ∧ ∃ k, x = .sl 4 es (.own k))
theorem IsK.one {x : AV} {es : List AV} (h : IsK x es) : VM.one x = true := by
  rcases h with h | ⟨_, k, rfl⟩
  · exact h.one
  · rfl
theorem IsK.asOne {β : Type} {x : AV} {es : List AV} (h : IsK x es) (K : Option β) : asOne x K = K := asOne_of h.one K
theorem IsK.fit {x : AV} {es : List AV} (h : IsK x es) : ∃ x', IsSl 4 x' es ∧ ∀ {β : Type} (K : AV → Option β), fit1 x K = K x' := by
  rcases h with h | ⟨hl, k, rfl⟩
  · exact ⟨x, h, fun K => h.fit1 K⟩
  · exact ⟨.sl 4 es .wide, IsSl.wide hl, fun K => rfl⟩
theorem IsK.own {st : St} {e : TypeId} {x : AV} {es : List AV} (h : Own st 4 e x es) : IsK x es := by
  rcases h.2.2 with ⟨rfl | rfl, rfl⟩ | rfl | ⟨k, rfl, _, _⟩
  · exact .inl IsSl.nils
  · exact .inl IsSl.emp
  · exact .inl (IsSl.shut h.2.1)
  · exact .inr ⟨h.2.1, k, rfl⟩
theorem IsK.elems {β : Type} {x : AV} {es : List AV} (h : IsK x es) (K : List AV → Option β) : elemsS x K = K es := by
  rcases h with h | ⟨_, k, rfl⟩
  · exact h.elems K
  · rfl
/-- A tree, as a call hands it back. -/
structure VN (t : T) (v : AV) : Prop where
  ex : ∃ k tk tx l x es, t = .mk k tk tx l ∧ v = .agg [.int .u8 (k : Int), .int .u8 (tk : Int), .str tx, x] ∧ IsK x es ∧ IsNs l es
/-- The cells of one node. -/
structure Nd (t : T) (k tk : Nat) (tx : List UInt8) (x : AV) : Prop where
  ex : ∃ l es, t = .mk k tk tx l ∧ IsK x es ∧ IsNs l es
theorem Nd.one {t : T} {k tk : Nat} {tx : List UInt8} {x : AV} (h : Nd t k tk tx x) : VM.one x = true := by
  obtain ⟨l, es, _, hk, _⟩ := h.ex
  exact hk.one
theorem Nd.asOne {t : T} {k tk : Nat} {tx : List UInt8} {x : AV} (h : Nd t k tk tx x) {β : Type} (K : Option β) : asOne x K = K := asOne_of h.one K
theorem Nd.fit {t : T} {k tk : Nat} {tx : List UInt8} {x : AV} (h : Nd t k tk tx x) : ∃ x', IsN t (.agg [.int .u8 (k : Int), .int .u8 (tk : Int), .str tx, x']) ∧ ∀ {β : Type} (K : AV → Option β), fit1 x K = K x' := by
  obtain ⟨l, es, rfl, hk, hn⟩ := h.ex
  obtain ⟨x', hx, hf⟩ := hk.fit
  exact ⟨x', by simp only [IsN]; exact ⟨x', es, rfl, hx, hn⟩, hf⟩
theorem VN.cells {t : T} {v : AV} (h : VN t v) : ∃ (k tk : Nat) (tx : List UInt8) (x : AV), v = .agg [.int .u8 (k : Int), .int .u8 (tk : Int), .str tx, x] ∧ Nd t k tk tx x := by
  obtain ⟨k, tk, tx, l, x, es, rfl, rfl, hk, hn⟩ := h.ex
  exact ⟨k, tk, tx, x, rfl, ⟨⟨l, es, rfl, hk, hn⟩⟩⟩
theorem Keeps.join {a b c : St} {p q : Nat → Prop} (h : Keeps a b p) (k : Keeps b c q) (hq : ∀ j, q j → p j ∨ a.h ≤ j) : Keeps a c p :=
  ⟨k.ro.trans h.ro, Nat.le_trans h.h k.h, fun j o hj hg => k.old j o (fun e => by
    rcases hq j e with h1 | h1
    · exact hj h1
    · have := (St.get_ok.1 hg).1
      omega) (h.old j o hj hg)⟩
abbrev z4 : List AV := [.int .u8 0, .int .u8 0, .str [], .nils]
section
variable {β : Type} {Q : β → Prop} {t : T}
theorem _root_.Go.VM.Goes.two {k tk : Nat} {tx : List UInt8} {y : AV} (hn : Nd t k tk tx y) {e : Option β} (g : Goes e Q) : Goes (asOne y e) Q := Goes.step (hn.asOne e) g
end
section
variable {t : T}
theorem IsNs.at : ∀ {l : List T} {es : List AV} {k : Nat} {t : T}, IsNs l es → l[k]? = some t → ∃ e, es[k]? = some e ∧ IsN t e
  | [], _, _, _, _, hk => by simp at hk
  | t :: l, _, 0, _, h, hk => by
    simp only [IsNs] at h
    obtain ⟨a, r, rfl, h1, h2⟩ := h
    obtain rfl : t = _ := by simpa using hk
    exact ⟨a, rfl, h1⟩
  | t :: l, _, k + 1, t', h, hk => by
    simp only [IsNs] at h
    obtain ⟨a, r, rfl, h1, h2⟩ := h
    obtain ⟨e, he, hi⟩ := IsNs.at (k := k) (t := t') h2 (by simpa using hk)
    exact ⟨e, by simpa using he, hi⟩
end
end Go.Proofs.YtflnfagdpoddiaaGreatDoor.Vm
/- Trees: their leaves, gone through. -/
set_option maxRecDepth 100000
set_option linter.unusedSimpArgs false
namespace Go.Proofs.YtflnfagdpoddiaaGreatDoor.Vm
open Go Go.VM Go.Proofs Go.Lex Go.Parse Go.Green

def pathI (p : List Nat) : List AV := p.map fun (i : Nat) => .int .i64 (i : Int)
/-- A path's value. -/
def PathV (x : AV) (p : List Nat) : Prop := (x = .nils ∧ p = []) ∨ ∃ m, x = .sl 1 (pathI p) m ∧ p ≠ []
/-- What rounds do: by what has been gone through; where one stops. -/
structure Rnds (k : Nat) (all : List (List Nat × T)) (I : List (List Nat × T) → St → Prop) (X : List (List Nat × T) → List Nat × T → St → Prop) : Prop where
  ro : ∀ {d st}, I d st → st.ro ≤ st.h
  keep : ∀ {d st st'}, I d st → Keeps st st' (fun _ => False) → I d st'
  round : ∀ {d q r st x v}, d ++ q :: r = all → I d st → PathV x q.1 → IsN q.2 v → ∃ b st', (orc vE).round k [x, v] st = some (.bool b, st') ∧ (b = true → I (d ++ [q]) st') ∧ (b = false → X d q st')
section
variable {k : Nat} {all : List (List Nat × T)} {I : List (List Nat × T) → St → Prop} {X : List (List Nat × T) → List Nat × T → St → Prop}
end
end Go.Proofs.YtflnfagdpoddiaaGreatDoor.Vm
/- Trees: their tokens, by the program. -/
set_option maxRecDepth 100000
set_option linter.unusedSimpArgs false
namespace Go.Proofs.YtflnfagdpoddiaaGreatDoor.Vm
open Go Go.VM Go.Proofs Go.Lex Go.Parse Go.Green

theorem Own.ne {st : St} {z : Nat} {e : TypeId} {v : AV} {ws : List AV} {j : Nat} {o : VM.Obj} (h : Own st z e v ws) (hj : st.get j = .ok o) (ho : ∀ n e, o ≠ .tok n e) : ¬ ownerOf v j := by
  rintro ⟨z, es, rfl⟩
  rcases h with ⟨_, _, ⟨h | h, _⟩ | h | ⟨k, h, hg, _⟩⟩
  · cases h
  · cases h
  · cases h
  · cases h; rw [hj] at hg; cases hg; exact ho _ _ rfl
end Go.Proofs.YtflnfagdpoddiaaGreatDoor.Vm
/- Trees: their tokens, by the program: the round; the text. -/
set_option maxRecDepth 100000
set_option linter.unusedSimpArgs false
namespace Go.Proofs.YtflnfagdpoddiaaGreatDoor.Vm
open Go Go.VM Go.Proofs Go.Lex Go.Parse Go.Green

noncomputable abbrev lpT (s : Nat) : VM.Obj := lpS vE 13 0 [.mp 0 0] s .normal
theorem lpT_some : (lpOf vE 13 0).isSome = true := by kernel_rfl
structure TkS (k s : Nat) (l : List Tok) (v : AV) (st : St) : Prop where
  out : st.get 0 = .ok (.cells 31 [v])
  own : Own st 2 23 v (l.map tok)
  loop : st.get k = .ok (lpT s)
  ro : st.ro = 0
section
variable {k s : Nat} {l : List Tok} {v : AV} {st st' : St}
theorem TkS.ne (h : TkS k s l v st) : k ≠ 0 := by
  rintro rfl
  have h1 := h.loop
  rw [h.out] at h1
  obtain ⟨imm, ps, a, c, fr, e⟩ := lpS_open lpT_some [.mp 0 0]
  rw [show lpT s = _ from e s .normal] at h1
  cases h1
theorem TkS.lt (h : TkS k s l v st) : k < st.h := (St.get_ok.1 h.loop).1
theorem TkS.keeps (h : TkS k s l v st) (hk : Keeps st st' (fun _ => False)) : TkS k s l v st' :=
  ⟨hk.old _ _ (fun f => f) h.out, own_keep h.own hk fun _ _ f => f, hk.old _ _ (fun f => f) h.loop, by rw [hk.ro]; exact h.ro⟩
theorem TkS.not0 (h : TkS k s l v st) : ¬ ownerOf v 0 := h.own.not h.out
theorem TkS.notk (h : TkS k s l v st) : ¬ ownerOf v k := Own.ne h.own h.loop (lpS_tok lpT_some _ _ _)
/-- The loop, turned. -/
theorem TkS.turn (h : TkS k s l v st) (s' : Nat) : TkS k s' l v (st.put k (lpT s')) := by
  have hk : Keeps st (st.put k (lpT s')) (· = k) := Keeps.put rfl
  exact ⟨hk.of_ne h.ne.symm h.out, own_keep h.own hk fun j hj e => h.notk (e ▸ hj), by rw [St.get_put_same h.lt], h.ro⟩
/-- More is appended. -/
theorem TkS.more (h : TkS k s l v st) {v' : AV} {l' : List Tok} (ho : Own st' 2 23 v' (l'.map tok)) (hk : Keeps st st' (ownerOf v)) :
    ∃ st'', TkS k s l' v' st'' ∧ Keeps st' st'' (· = 0) ∧ ∃ fx, ∀ {β : Type} (K : Kv β), storeS (orc vE) 1 (.mp 0 0) v' [v'] st' K = K VM.undef st'' fx := by
  have g0 := hk.old _ _ h.not0 h.out
  have gk := hk.old _ _ h.notk h.loop
  obtain ⟨s2, g2, k2, n2, fx, e⟩ := var_put (O := orc vE) v' g0 (z := 1) (cs := [v']) rfl rfl (by rw [hk.ro, h.ro]; omega)
  exact ⟨s2, ⟨g2, own_keep ho k2 fun j hj e => ho.not g0 (e ▸ hj), k2.of_ne h.ne gk, by rw [k2.ro, hk.ro]; exact h.ro⟩, k2, fx, e⟩
end
end Go.Proofs.YtflnfagdpoddiaaGreatDoor.Vm
/- Trees and paths: arguments. -/
set_option maxRecDepth 100000
set_option linter.unusedSimpArgs false
namespace Go.Proofs.YtflnfagdpoddiaaGreatDoor.Vm
open Go Go.VM Go.Proofs Go.Parse Go.Green

def lawS : List TypeId := [9, 5, 3, 26, 23, 24, 36]
theorem lawS_ok : ∀ t, inS lawS t = true → okTy Tryz.prog lawS t = true := by
  intro t ht
  have : t ∈ lawS := by
    obtain ⟨u, hu, e⟩ := List.any_eq_true.1 ht
    rw [← Nat.eq_of_beq_eq_true e]; exact hu
  exact List.all_eq_true.1 (show (lawS.all fun t => okTy Tryz.prog lawS t) = true by kernel_rfl) t this
end Go.Proofs.YtflnfagdpoddiaaGreatDoor.Vm
