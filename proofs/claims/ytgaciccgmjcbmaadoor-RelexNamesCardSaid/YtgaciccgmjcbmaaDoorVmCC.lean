/-
  (A part of the proof: LexF, LexG, LexH, LexI, LexJ, TokEq, RelexA, RelexB, RelexC, RelexD, RelexE, RelexF, RelexG, RelexH, RelexI, RelexJ, RelexK, RelexM, RelexN, RelexArg.)
-/
import Derived.Test.YtgaciccgmjcbmaaDoorVmCB
import Derived.Test.YtgaciccgmjcbmaaDoorVmBG
import Derived.Test.YtgaciccgmjcbmaaDoorVmBJ
/- Runes and valid texts, by the reference. -/
set_option maxRecDepth 100000
set_option linter.unusedSimpArgs false
namespace Go.Proofs.YtgaciccgmjcbmaaDoor.Vm
open Go Go.VM Go.Proofs Go.Lex

def goodT (t : List UInt8) : Prop := 0 ≤ bitsI t ∧ putN (bitsI t).toNat = t
theorem good1 (a : UInt8) : goodT [a] ↔ a.toNat < 128 := by
  have e : bitsI [a] = (a.toNat : Int) := rfl
  unfold goodT
  rw [e, Int.toNat_natCast, put1]
  exact ⟨fun h => h.2, fun h => ⟨by omega, h⟩⟩
theorem good2 (a b : UInt8) : goodT [a, b] ↔ (194 ≤ a.toNat ∧ a.toNat ≤ 223) ∧ ¬ (b.toNat < 128 ∨ 191 < b.toNat) := by
  have e : bitsI [a, b] = ((a.toNat : Int) - 192) * 64 + b.toNat - 128 := rfl
  unfold goodT
  rw [e]
  constructor
  · rintro ⟨h0, h⟩
    exact (put2 (by omega)).1 h
  · intro h
    have h0 : 0 ≤ ((a.toNat : Int) - 192) * 64 + b.toNat - 128 := by omega
    exact ⟨h0, (put2 (by omega)).2 h⟩
theorem good3 (a b c : UInt8) : goodT [a, b, c] ↔ (224 ≤ a.toNat ∧ a.toNat ≤ 239) ∧ ¬ (b.toNat < 128 ∨ 191 < b.toNat ∨ c.toNat < 128 ∨ 191 < c.toNat ∨ (a.toNat = 224 ∧ b.toNat < 160) ∨ (a.toNat = 237 ∧ 159 < b.toNat)) := by
  have e : bitsI [a, b, c] = (((a.toNat : Int) - 224) * 64 + b.toNat - 128) * 64 + c.toNat - 128 := rfl
  unfold goodT
  rw [e]
  constructor
  · rintro ⟨h0, h⟩
    exact (put3 (by omega)).1 h
  · intro h
    have h0 : 0 ≤ (((a.toNat : Int) - 224) * 64 + b.toNat - 128) * 64 + c.toNat - 128 := by omega
    exact ⟨h0, (put3 (by omega)).2 h⟩
theorem good4 (a b c d : UInt8) : goodT [a, b, c, d] ↔ (240 ≤ a.toNat ∧ a.toNat ≤ 244) ∧ ¬ (b.toNat < 128 ∨ 191 < b.toNat ∨ c.toNat < 128 ∨ 191 < c.toNat ∨ d.toNat < 128 ∨ 191 < d.toNat ∨ (a.toNat = 240 ∧ b.toNat < 144) ∨ (a.toNat = 244 ∧ 143 < b.toNat)) := by
  have e : bitsI [a, b, c, d] = ((((a.toNat : Int) - 240) * 64 + b.toNat - 128) * 64 + c.toNat - 128) * 64 + d.toNat - 128 := rfl
  unfold goodT
  rw [e]
  constructor
  · rintro ⟨h0, h⟩
    exact (put4 (by omega)).1 h
  · intro h
    have h0 : 0 ≤ ((((a.toNat : Int) - 240) * 64 + b.toNat - 128) * 64 + c.toNat - 128) * 64 + d.toNat - 128 := by omega
    exact ⟨h0, (put4 (by omega)).2 h⟩
theorem bits_bound : ∀ (l : List UInt8), l.length ≤ 4 → bitsI l ≤ 100000000
  | [], _ => by simp [bitsI]
  | [a], _ => by have := UInt8.toNat_lt a; simp only [bitsI]; omega
  | [a, b], _ => by
    have := UInt8.toNat_lt a; have := UInt8.toNat_lt b
    have e : bitsI [a, b] = ((a.toNat : Int) - 192) * 64 + b.toNat - 128 := rfl
    omega
  | [a, b, c], _ => by
    have := UInt8.toNat_lt a; have := UInt8.toNat_lt b; have := UInt8.toNat_lt c
    have e : bitsI [a, b, c] = (((a.toNat : Int) - 224) * 64 + b.toNat - 128) * 64 + c.toNat - 128 := rfl
    omega
  | [a, b, c, d], _ => by
    have := UInt8.toNat_lt a; have := UInt8.toNat_lt b; have := UInt8.toNat_lt c; have := UInt8.toNat_lt d
    have e : bitsI [a, b, c, d] = ((((a.toNat : Int) - 240) * 64 + b.toNat - 128) * 64 + c.toNat - 128) * 64 + d.toNat - 128 := rfl
    omega
  | _ :: _ :: _ :: _ :: _ :: _, h => by simp at h
section
variable {s : List UInt8} (st : St) {n : Nat} (h1 : 1 ≤ n) (h4 : n ≤ 4) (hl : n ≤ s.length)
include h1 h4 hl
theorem rune_calls : (s.take n ≠ [] ∧ (s.take n).length ≤ 4) ∧ (∀ {β : Type} (st : St) (K : Kv β), callS (orc vE) 75 [.str (s.take n)] st K = K (.int .i64 (bitsI (s.take n))) st q0) := by
  have hlen : (s.take n).length = n := by rw [List.length_take]; omega
  have hne : s.take n ≠ [] := by
    intro e
    rw [e] at hlen
    simp at hlen; omega
  exact ⟨⟨hne, by omega⟩, fun st K => callS_bare st K rfl rfl rfl (bits_ok hne (by omega))⟩
theorem rune_yes (hg : goodT (s.take n)) : loopO (g51_L1 s) ([.int .i64 0, .int .i64 0, .int .i64 (n : Int)], st) = some (1, [.int .i64 (bitsI (s.take n)), .int .i64 (n : Int)], st) := by
  obtain ⟨⟨hne, h4'⟩, hb⟩ := rune_calls h1 h4 hl
  have hbd := bits_bound (s.take n) h4'
  obtain ⟨g0, g1⟩ := hg
  obtain ⟨k, hk⟩ := Int.eq_ofNat_of_zero_le g0
  have hp : ∀ {β : Type} (st : St) (K : Kv β), callS (orc vE) 76 [.int .i64 (bitsI (s.take n))] st K = K (.str (s.take n)) st q0 := fun st K => by
    rw [hk, callS_bare st K rfl rfl rfl (put_ok' k (by omega))]
    rw [hk] at g1
    rw [show (s.take n) = putN k from g1.symm]
  refine loopO_inr ?_
  have q1 : (n : Int) ≤ 4 := by omega
  have q2 : (n : Int) ≤ (s.length : Int) := by omega
  simp only [g51_L1, unc_cons, asI_int, un0_nil, ifB_decide, if_pos q1, decide_eq_true q2, bindO_ok, asB_bool, ifB_true, uptoS_nat hl, List.drop_zero, letV_eq, hb, if_pos (show bitsI (s.take n) ≥ 0 from g0), hp, asS_str, apart_kept, apart_kept2, Bool.and_self, chk_true, beq_self_eq_true]
theorem rune_no (hg : ¬ goodT (s.take n)) : loopO (g51_L1 s) ([.int .i64 0, .int .i64 0, .int .i64 (n : Int)], st) = loopO (g51_L1 s) ([.int .i64 0, .int .i64 0, .int .i64 ((n + 1 : Nat) : Int)], st) := by
  obtain ⟨⟨hne, h4'⟩, hb⟩ := rune_calls h1 h4 hl
  have hbd := bits_bound (s.take n) h4'
  have q1 : (n : Int) ≤ 4 := by omega
  have q2 : (n : Int) ≤ (s.length : Int) := by omega
  refine loopO_inl ?_
  by_cases g0 : bitsI (s.take n) ≥ 0
  · obtain ⟨k, hk⟩ := Int.eq_ofNat_of_zero_le g0
    have hne2 : (putN k == s.take n) = false := by
      rw [beq_eq_false_iff_ne]
      intro e
      exact hg ⟨g0, by rw [hk]; exact e⟩
    have hp : ∀ {β : Type} (st : St) (K : Kv β), callS (orc vE) 76 [.int .i64 (bitsI (s.take n))] st K = K (.str (putN k)) st q0 := fun st K => by
      rw [hk, callS_bare st K rfl rfl rfl (put_ok' k (by omega))]
    simp only [g51_L1, unc_cons, asI_int, un0_nil, ifB_decide, if_pos q1, decide_eq_true q2, bindO_ok, asB_bool, ifB_true, uptoS_nat hl, List.drop_zero, letV_eq, hb, if_pos g0, hp, asS_str, apart_kept, apart_kept2, Bool.and_self, chk_true, hne2, ifB_false, wrapA1 (show n + 1 ≤ 9223372036854775807 by omega)]
  · simp only [g51_L1, unc_cons, asI_int, un0_nil, ifB_decide, if_pos q1, decide_eq_true q2, bindO_ok, asB_bool, ifB_true, uptoS_nat hl, List.drop_zero, letV_eq, hb, if_neg g0, ifB_false, wrapA1 (show n + 1 ≤ 9223372036854775807 by omega)]
end
theorem rune_end {s : List UInt8} (st : St) {n : Nat} (h : 4 < n ∨ s.length < n) : loopO (g51_L1 s) ([.int .i64 0, .int .i64 0, .int .i64 (n : Int)], st) = some (0, [.int .i64 0, .int .i64 0], st) := by
  refine loopO_inr ?_
  by_cases q1 : (n : Int) ≤ 4
  · have q2 : ¬ (n : Int) ≤ (s.length : Int) := by omega
    simp only [g51_L1, unc_cons, asI_int, un0_nil, ifB_decide, if_pos q1, decide_eq_false q2, bindO_ok, asB_bool, ifB_false]
  · simp only [g51_L1, unc_cons, asI_int, un0_nil, ifB_decide, if_neg q1, bindO_ok, asB_bool, ifB_false]
theorem good_pos {t : List UInt8} (h : goodT t) : 0 ≤ bitsI t := h.1
/-- The first character's size. -/
theorem rune_loop {s : List UInt8} (hne : s ≠ []) (st : St) : (szL s = 0 ∧ loopO (g51_L1 s) ([.int .i64 0, .int .i64 0, .int .i64 ((1 : Nat) : Int)], st) = some (0, [.int .i64 0, .int .i64 0], st)) ∨
    (szL s ≠ 0 ∧ ∃ p : Int, 0 ≤ p ∧ loopO (g51_L1 s) ([.int .i64 0, .int .i64 0, .int .i64 ((1 : Nat) : Int)], st) = some (1, [.int .i64 p, .int .i64 (szL s : Int)], st)) := by
  cases s with
  | nil => exact absurd rfl hne
  | cons a s1 =>
  have l1 : 1 ≤ (a :: s1).length := by simp
  by_cases g1 : a.toNat < 128
  · have gg : goodT ((a :: s1).take 1) := (good1 a).2 g1
    have hz : szL (a :: s1) = 1 := by
      show szN _ a.toNat _ _ _ = 1
      unfold szN; rw [if_pos g1]
    exact .inr ⟨by omega, _, good_pos gg, by rw [hz]; exact rune_yes st (Nat.le_refl _) (by omega) l1 gg⟩
  have n1 := rune_no st (n := 1) (Nat.le_refl _) (by omega) l1 (fun h => g1 ((good1 a).1 h))
  rw [n1]
  have hsz : szL (a :: s1) = szN (a :: s1).length a.toNat (s1.getD 0 0).toNat (s1.getD 1 0).toNat (s1.getD 2 0).toNat := rfl
  unfold szN at hsz
  rw [if_neg g1] at hsz
  cases s1 with
  | nil =>
    refine .inl ⟨?_, rune_end st (.inr (by simp))⟩
    rw [hsz]
    repeat' split
    all_goals first | rfl | (exfalso; simp at *; done)
  | cons b s2 =>
  have l2 : 2 ≤ (a :: b :: s2).length := by simp
  by_cases g2 : (194 ≤ a.toNat ∧ a.toNat ≤ 223) ∧ ¬ (b.toNat < 128 ∨ 191 < b.toNat)
  · have gg : goodT ((a :: b :: s2).take 2) := (good2 a b).2 g2
    have hz : szL (a :: b :: s2) = 2 := by
      rw [hsz, if_pos g2.1, if_neg]
      intro h
      rcases h with h | h
      · omega
      · exact g2.2 h
    exact .inr ⟨by omega, _, good_pos gg, by rw [hz]; exact rune_yes st (by omega) (by omega) l2 gg⟩
  have n2 := rune_no st (n := 2) (by omega) (by omega) l2 (fun h => g2 ((good2 a b).1 h))
  rw [n2]
  have hb2 : (194 ≤ a.toNat ∧ a.toNat ≤ 223) → szL (a :: b :: s2) = 0 := by
    intro h
    rw [hsz, if_pos h, if_pos]
    have := fun k => g2 ⟨h, k⟩
    refine .inr ?_
    show b.toNat < 128 ∨ 191 < b.toNat
    omega
  cases s2 with
  | nil =>
    refine .inl ⟨?_, rune_end st (.inr (by simp))⟩
    by_cases h : 194 ≤ a.toNat ∧ a.toNat ≤ 223
    · exact hb2 h
    · rw [hsz, if_neg h]
      repeat' split
      all_goals first | rfl | (exfalso; simp at *; done)
  | cons c s3 =>
  have l3 : 3 ≤ (a :: b :: c :: s3).length := by simp
  by_cases g3 : (224 ≤ a.toNat ∧ a.toNat ≤ 239) ∧ ¬ (b.toNat < 128 ∨ 191 < b.toNat ∨ c.toNat < 128 ∨ 191 < c.toNat ∨ (a.toNat = 224 ∧ b.toNat < 160) ∨ (a.toNat = 237 ∧ 159 < b.toNat))
  · have gg : goodT ((a :: b :: c :: s3).take 3) := (good3 a b c).2 g3
    have hz : szL (a :: b :: c :: s3) = 3 := by
      rw [hsz, if_neg (by omega), if_pos g3.1, if_neg]
      intro h
      rcases h with h | h
      · omega
      · exact g3.2 h
    exact .inr ⟨by omega, _, good_pos gg, by rw [hz]; exact rune_yes st (by omega) (by omega) l3 gg⟩
  have n3 := rune_no st (n := 3) (by omega) (by omega) l3 (fun h => g3 ((good3 a b c).1 h))
  rw [n3]
  have hb3 : (224 ≤ a.toNat ∧ a.toNat ≤ 239) → szL (a :: b :: c :: s3) = 0 := by
    intro h
    rw [hsz, if_neg (by omega), if_pos h, if_pos]
    refine .inr ?_
    show b.toNat < 128 ∨ 191 < b.toNat ∨ c.toNat < 128 ∨ 191 < c.toNat ∨ (a.toNat = 224 ∧ b.toNat < 160) ∨ (a.toNat = 237 ∧ 159 < b.toNat)
    exact Classical.byContradiction fun k => g3 ⟨h, k⟩
  cases s3 with
  | nil =>
    refine .inl ⟨?_, rune_end st (.inr (by simp))⟩
    by_cases h : 194 ≤ a.toNat ∧ a.toNat ≤ 223
    · exact hb2 h
    · by_cases h3 : 224 ≤ a.toNat ∧ a.toNat ≤ 239
      · exact hb3 h3
      · rw [hsz, if_neg h, if_neg h3]
        repeat' split
        all_goals first | rfl | (exfalso; simp at *; done)
  | cons d s4 =>
  have l4 : 4 ≤ (a :: b :: c :: d :: s4).length := by simp
  by_cases g4 : (240 ≤ a.toNat ∧ a.toNat ≤ 244) ∧ ¬ (b.toNat < 128 ∨ 191 < b.toNat ∨ c.toNat < 128 ∨ 191 < c.toNat ∨ d.toNat < 128 ∨ 191 < d.toNat ∨ (a.toNat = 240 ∧ b.toNat < 144) ∨ (a.toNat = 244 ∧ 143 < b.toNat))
  · have gg : goodT ((a :: b :: c :: d :: s4).take 4) := (good4 a b c d).2 g4
    have hz : szL (a :: b :: c :: d :: s4) = 4 := by
      rw [hsz, if_neg (by omega), if_neg (by omega), if_pos g4.1, if_neg]
      intro h
      rcases h with h | h
      · omega
      · exact g4.2 h
    exact .inr ⟨by omega, _, good_pos gg, by rw [hz]; exact rune_yes st (by omega) (by omega) l4 gg⟩
  have n4 := rune_no st (n := 4) (by omega) (by omega) l4 (fun h => g4 ((good4 a b c d).1 h))
  rw [n4]
  refine .inl ⟨?_, rune_end st (.inl (by omega))⟩
  by_cases h : 194 ≤ a.toNat ∧ a.toNat ≤ 223
  · exact hb2 h
  · by_cases h3 : 224 ≤ a.toNat ∧ a.toNat ≤ 239
    · exact hb3 h3
    · rw [hsz, if_neg h, if_neg h3]
      by_cases h4 : 240 ≤ a.toNat ∧ a.toNat ≤ 244
      · rw [if_pos h4, if_pos]
        refine .inr ?_
        show b.toNat < 128 ∨ 191 < b.toNat ∨ c.toNat < 128 ∨ 191 < c.toNat ∨ d.toNat < 128 ∨ 191 < d.toNat ∨ (a.toNat = 240 ∧ b.toNat < 144) ∨ (a.toNat = 244 ∧ 143 < b.toNat)
        exact Classical.byContradiction fun k => g4 ⟨h4, k⟩
      · rw [if_neg h4]
theorem ref_rune {s : List UInt8} (hne : s ≠ []) : ∃ p : Int, (orc vE).bare 51 [.str s] = some (.tup [.int .i64 p, .int .i64 (chN s : Int)]) ∧ ((p < 0 ∧ szL s = 0) ∨ (0 ≤ p ∧ szL s ≠ 0)) := by
  have he : (s == []) = false := by simpa using hne
  rcases rune_loop hne (St.mk 0 0 Tr.leaf) with ⟨h, e⟩ | ⟨h, p, hp, e⟩
  · refine ⟨-1, bare_of rfl ((g51_eq _).trans ?_), .inl ⟨by omega, h⟩⟩
    have e : loopO (g51_L1 s) ([.int .i64 0, .int .i64 0, .int .i64 1], St.mk 0 0 Tr.leaf) = _ := e
    simp only [g51, asS_str, he, ifB_false, e, bindO_ok, unc_cons, asI_int, un0_nil, sel2_zero, chN, if_pos h]
    rfl
  · refine ⟨p, bare_of rfl ((g51_eq _).trans ?_), .inr ⟨hp, h⟩⟩
    have e : loopO (g51_L1 s) ([.int .i64 0, .int .i64 0, .int .i64 1], St.mk 0 0 Tr.leaf) = _ := e
    simp only [g51, asS_str, he, ifB_false, e, bindO_ok, unc_cons, asI_int, un0_nil, sel2_one, chN, if_neg h]
theorem valid_loop (st : St) : ∀ (n : Nat) (s : List UInt8), s.length ≤ n → loopO g40_L1 ([.bool false, .str s], st) = some (if validS s then (0, [.bool false], st) else (1, [.bool false], st))
  | n, [], _ => by
    refine loopO_inr ?_
    simp only [g40_L1, unc_cons, asB_bool, asS_str, un0_nil, show (!(([] : List UInt8) == [])) = false from rfl, ifB_false]
    rfl
  | 0, _ :: _, h => by simp at h
  | n + 1, c :: l, h => by
    obtain ⟨p, e, hp⟩ := ref_rune (s := c :: l) (by simp)
    have hc : ∀ {β : Type} (st : St) (K : Kv β), callS (orc vE) 51 [.str (c :: l)] st K = K (.tup [.int .i64 p, .int .i64 (chN (c :: l) : Int)]) st q0 := fun st K => callS_bare st K rfl rfl rfl e
    rw [validS_step (l := c :: l) (by simp)]
    rcases hp with ⟨h1, h2⟩ | ⟨h1, h2⟩
    · rw [if_pos h2]
      refine loopO_inr ?_
      simp only [g40_L1, unc_cons, asB_bool, asS_str, un0_nil, show (!((c :: l : List UInt8) == [])) = true from rfl, ifB_true, hc, unT_tup, nthS_zero, nthS_one, asI_int, ifB_decide, if_pos h1]
      rfl
    · rw [if_neg h2]
      have hz := szL_le (l := c :: l) (by simp)
      have hch : chN (c :: l) = szL (c :: l) := by unfold chN; rw [if_neg h2]
      have h1' : ¬ p < 0 := by omega
      rw [loopO_inl (s' := ([.bool false, .str ((c :: l).drop (szL (c :: l)))], st)), valid_loop st n _ (by rw [List.length_drop]; omega)]
      simp only [g40_L1, unc_cons, asB_bool, asS_str, un0_nil, show (!((c :: l : List UInt8) == [])) = true from rfl, ifB_true, hc, hch, unT_tup, nthS_zero, nthS_one, asI_int, ifB_decide, if_neg h1', uptoS_nat hz, List.take_length, letV_eq]
theorem ref_valid (s : List UInt8) : (orc vE).bare 40 [.str s] = some (.bool (validS s)) := by
  refine bare_of rfl ((g40_eq _).trans ?_)
  have e := valid_loop (St.mk 0 0 Tr.leaf) s.length s (Nat.le_refl _)
  simp only [g40, asS_str, e]
  cases validS s <;> simp [sel2_zero, sel2_one]
end Go.Proofs.YtgaciccgmjcbmaaDoor.Vm
/- Tokens: the reference's ways to cut. -/
set_option maxRecDepth 100000
set_option linter.unusedSimpArgs false
namespace Go.Proofs.YtgaciccgmjcbmaaDoor.Vm
open Go Go.VM Go.Proofs Go.Lex

theorem at_nil {s : List UInt8} {n : Nat} (h : s.drop n = []) : s.getD n 0 = 0 := by
  have := List.drop_eq_nil_iff.1 h
  rw [List.getD_eq_getElem?_getD, List.getElem?_eq_none this]; rfl
theorem at_cons {s l : List UInt8} {n : Nat} {c : UInt8} (h : s.drop n = c :: l) : s.getD n 0 = c := by
  rw [List.getD_eq_getElem?_getD, (drop_cons h).1]; rfl
theorem at_ok (s : List UInt8) (i : Nat) : (orc vE).bare 53 [.str s, .int .i64 (i : Int)] = some (.int .u8 ((s.getD i 0).toNat : Int)) := by
  refine bare_of rfl ((g53_eq _ _).trans ?_)
  have q : ¬ (i : Int) < 0 := by omega
  by_cases h : i < s.length
  · have h' : ¬ (i : Int) ≥ (s.length : Int) := by omega
    have e : s.getD i 0 = s[i] := by rw [List.getD_eq_getElem?_getD, List.getElem?_eq_getElem h]; rfl
    rw [e]
    simp only [g53, asS_str, asI_int, ifB_decide, if_neg q, if_neg h', bindO_ok, unc_cons, asB_bool, un0_nil, idxStr_nat h]
  · have h' : (i : Int) ≥ (s.length : Int) := by omega
    have e : s.getD i 0 = 0 := by rw [List.getD_eq_getElem?_getD, List.getElem?_eq_none (by omega)]; rfl
    rw [e]
    simp only [g53, asS_str, asI_int, ifB_decide, if_neg q, if_pos h', bindO_ok, unc_cons, asB_bool, un0_nil]
    rfl
theorem call_at {β : Type} (s : List UInt8) (i : Nat) (st : St) (K : Kv β) : callS (orc vE) 53 [.str s, .int .i64 (i : Int)] st K = K (.int .u8 ((s.getD i 0).toNat : Int)) st q0 := callS_bare st K rfl rfl rfl (at_ok s i)
theorem byte_beq (c d : UInt8) : ((c.toNat : Int) == (d.toNat : Int)) = (c == d) := by
  by_cases h : c = d
  · subst h; simp
  · rw [beq_eq_false_iff_ne.2 h, beq_eq_false_iff_ne.2 (byte_ne h)]
theorem rblank (c : UInt8) : (orc vE).bare 52 [.int .u8 (c.toNat : Int)] = some (.bool (isBlank c)) := by
  refine bare_of rfl ((g52_eq _).trans ?_)
  have b1 : ((c.toNat : Int) == 32) = (c == 32) := byte_beq c 32
  have b2 : ((c.toNat : Int) == 9) = (c == 9) := byte_beq c 9
  have b3 : ((c.toNat : Int) == 10) = (c == 10) := byte_beq c 10
  have b4 : ((c.toNat : Int) == 13) = (c == 13) := byte_beq c 13
  simp only [g52, asI_int, b1, b2, b3, b4, isBlank]
  cases c == 32 <;> cases c == 9 <;> cases c == 10 <;> rfl
theorem rlow (c : UInt8) : (orc vE).bare 56 [.int .u8 (c.toNat : Int)] = some (.bool (isLow c)) := by
  refine bare_of rfl ((g56_eq _).trans ?_)
  have b1 : decide ((c.toNat : Int) ≥ 97) = decide (97 ≤ c.toNat) := decide_eq_decide.2 (by omega)
  have b2 : decide ((c.toNat : Int) ≤ 122) = decide (c.toNat ≤ 122) := decide_eq_decide.2 (by omega)
  have b3 : ((c.toNat : Int) == 95) = (c == 95) := byte_beq c 95
  simp only [g56, asI_int, b1, b2, b3, isLow]
  cases decide (97 ≤ c.toNat) <;> cases decide (c.toNat ≤ 122) <;> rfl
theorem rdigit (c : UInt8) : (orc vE).bare 59 [.int .u8 (c.toNat : Int)] = some (.bool (isDig c)) := by
  refine bare_of rfl ((g59_eq _).trans ?_)
  have b1 : decide ((c.toNat : Int) ≥ 48) = decide (48 ≤ c.toNat) := decide_eq_decide.2 (by omega)
  have b2 : decide ((c.toNat : Int) ≤ 57) = decide (c.toNat ≤ 57) := decide_eq_decide.2 (by omega)
  simp only [g59, asI_int, b1, b2, isDig]
  cases decide (48 ≤ c.toNat) <;> cases decide (c.toNat ≤ 57) <;> rfl
theorem call_rblank {β : Type} (c : UInt8) (st : St) (K : Kv β) : callS (orc vE) 52 [.int .u8 (c.toNat : Int)] st K = K (.bool (isBlank c)) st q0 := callS_bare st K rfl rfl rfl (rblank c)
theorem call_rlow {β : Type} (c : UInt8) (st : St) (K : Kv β) : callS (orc vE) 56 [.int .u8 (c.toNat : Int)] st K = K (.bool (isLow c)) st q0 := callS_bare st K rfl rfl rfl (rlow c)
theorem call_rdigit {β : Type} (c : UInt8) (st : St) (K : Kv β) : callS (orc vE) 59 [.int .u8 (c.toNat : Int)] st K = K (.bool (isDig c)) st q0 := callS_bare st K rfl rfl rfl (rdigit c)
theorem rbehind (c : UInt8) : (orc vE).bare 57 [.int .u8 (c.toNat : Int)] = some (.bool (isBeh c)) := by
  refine bare_of rfl ((g57_eq _).trans ?_)
  have b1 : decide ((c.toNat : Int) ≥ 65) = decide (65 ≤ c.toNat) := decide_eq_decide.2 (by omega)
  have b2 : decide ((c.toNat : Int) ≤ 90) = decide (c.toNat ≤ 90) := decide_eq_decide.2 (by omega)
  have b3 : ((c.toNat : Int) == 39) = (c == 39) := byte_beq c 39
  simp only [g57, asI_int, b1, b2, b3, call_rlow, call_rdigit, asB_bool, isBeh]
  cases isLow c <;> cases isDig c <;> cases decide (65 ≤ c.toNat) <;> cases decide (c.toNat ≤ 90) <;> rfl
theorem call_rbehind {β : Type} (c : UInt8) (st : St) (K : Kv β) : callS (orc vE) 57 [.int .u8 (c.toNat : Int)] st K = K (.bool (isBeh c)) st q0 := callS_bare st K rfl rfl rfl (rbehind c)
theorem rhas {s t : List UInt8} {i : Nat} (ht : t.length = 2) (hi : i ≤ 1000000) : (orc vE).bare 54 [.str s, .int .i64 (i : Int), .str t] = some (.bool ((s.drop i).take 2 == t)) := by
  refine bare_of rfl ((g54_eq _ _ _).trans ?_)
  by_cases h : i + 2 ≤ s.length
  · have h' : ((i + 2 : Nat) : Int) ≤ (s.length : Int) := by omega
    have e : (s.take (i + 2)).drop i = (s.drop i).take 2 := by rw [List.drop_take]; congr 1; omega
    simp only [g54, asS_str, asI_int, letV_eq, wrapA2 (show i + 2 ≤ 9223372036854775807 by omega), ifB_decide, if_pos h', uptoS_nat h, uptoS_nat (show i ≤ i + 2 by omega), e, bindO_ok, unc_cons, asB_bool, un0_nil]
  · have h' : ¬ ((i + 2 : Nat) : Int) ≤ (s.length : Int) := by omega
    have e : ((s.drop i).take 2 == t) = false := by
      rw [beq_eq_false_iff_ne]
      intro e
      have := congrArg List.length e
      rw [List.length_take, List.length_drop, ht] at this
      omega
    simp only [g54, asS_str, asI_int, letV_eq, wrapA2 (show i + 2 ≤ 9223372036854775807 by omega), ifB_decide, if_neg h', e, bindO_ok, unc_cons, asB_bool, un0_nil]
theorem call_has {β : Type} (s : List UInt8) {t : List UInt8} {i : Nat} (ht : t.length = 2) (hi : i ≤ 1000000) (st : St) (K : Kv β) : callS (orc vE) 54 [.str s, .int .i64 (i : Int), .str t] st K = K (.bool ((s.drop i).take 2 == t)) st q0 := callS_bare st K rfl rfl rfl (rhas ht hi)
theorem call_has0 {β : Type} (s : List UInt8) {t : List UInt8} (ht : t.length = 2) (st : St) (K : Kv β) : callS (orc vE) 54 [.str s, .int .i64 0, .str t] st K = K (.bool (s.take 2 == t)) st q0 := call_has s (i := 0) ht (by omega) st K

/-- A loop that counts bytes. -/
theorem wh_loop {p : UInt8 → Bool} {L : Car → Option (Car ⊕ Nat × Car)} {s : List UInt8} {st : St} (hp : p 0 = false)
    (h1 : ∀ n : Nat, n < s.length → p (s.getD n 0) = true → L ([.int .i64 (n : Int)], st) = some (.inl ([.int .i64 ((n + 1 : Nat) : Int)], st)))
    (h0 : ∀ n : Nat, p (s.getD n 0) = false → L ([.int .i64 (n : Int)], st) = some (.inr (0, [.int .i64 (n : Int)], st))) :
    ∀ (l : List UInt8) (n : Nat), s.drop n = l → loopO L ([.int .i64 (n : Int)], st) = some (0, [.int .i64 ((n + wh p l : Nat) : Int)], st)
  | [], n, hd => by
    rw [loopO_inr (h0 n (by rw [at_nil hd]; exact hp))]; rfl
  | c :: l, n, hd => by
    obtain ⟨_, hr, hlt⟩ := drop_cons hd
    have ha := at_cons hd
    rw [wh_cons]
    cases hc : p c with
    | true =>
      rw [loopO_inl (h1 n hlt (by rw [ha]; exact hc)), wh_loop hp h1 h0 l (n + 1) hr]
      simp only [if_true]
      rw [show n + 1 + wh p l = n + (wh p l + 1) by omega]
    | false =>
      rw [loopO_inr (h0 n (by rw [ha]; exact hc))]; rfl
section
variable {s : List UInt8} (hs : s.length ≤ 1000000) (st : St) {l : List UInt8} {n : Nat} (hd : s.drop n = l)
include hs hd
theorem num_loop1 : loopO (g60_L1 s) ([.int .i64 (n : Int)], st) = some (0, [.int .i64 ((n + wh isDig l : Nat) : Int)], st) := by
  refine wh_loop (p := isDig) rfl (fun n hn h => ?_) (fun n h => ?_) l n hd
  · simp only [g60_L1, unc_cons, asI_int, un0_nil, call_at, call_rdigit, h, asB_bool, ifB_true, letV_eq, wrapA1 (show n + 1 ≤ 9223372036854775807 by omega)]
  · simp only [g60_L1, unc_cons, asI_int, un0_nil, call_at, call_rdigit, h, asB_bool, ifB_false]
theorem num_loop2 : loopO (g60_L2 s) ([.int .i64 (n : Int)], st) = some (0, [.int .i64 ((n + wh isDig l : Nat) : Int)], st) := by
  refine wh_loop (p := isDig) rfl (fun n hn h => ?_) (fun n h => ?_) l n hd
  · simp only [g60_L2, unc_cons, asI_int, un0_nil, call_at, call_rdigit, h, asB_bool, ifB_true, letV_eq, wrapA1 (show n + 1 ≤ 9223372036854775807 by omega)]
  · simp only [g60_L2, unc_cons, asI_int, un0_nil, call_at, call_rdigit, h, asB_bool, ifB_false]
theorem cut_loop1 : loopO (g41_L1 s) ([.int .i64 (n : Int)], st) = some (0, [.int .i64 ((n + wh isBlank l : Nat) : Int)], st) := by
  refine wh_loop (p := isBlank) rfl (fun n hn h => ?_) (fun n h => ?_) l n hd
  · simp only [g41_L1, unc_cons, asI_int, un0_nil, call_at, call_rblank, h, asB_bool, ifB_true, letV_eq, wrapA1 (show n + 1 ≤ 9223372036854775807 by omega)]
  · simp only [g41_L1, unc_cons, asI_int, un0_nil, call_at, call_rblank, h, asB_bool, ifB_false]
theorem cut_loop2 : loopO (g41_L2 s) ([.int .i64 (n : Int)], st) = some (0, [.int .i64 ((n + wh isBeh l : Nat) : Int)], st) := by
  refine wh_loop (p := isBeh) rfl (fun n hn h => ?_) (fun n h => ?_) l n hd
  · simp only [g41_L2, unc_cons, asI_int, un0_nil, call_at, call_rbehind, h, asB_bool, ifB_true, letV_eq, wrapA1 (show n + 1 ≤ 9223372036854775807 by omega)]
  · simp only [g41_L2, unc_cons, asI_int, un0_nil, call_at, call_rbehind, h, asB_bool, ifB_false]
end
/-- A power, never above a million. -/
def stepC (a : Nat) (c : UInt8) : Nat := min (stepV a c) 1000000
def numC (a : Nat) (l : List UInt8) : Nat := l.foldl stepC a
theorem numC_nil (a : Nat) : numC a [] = a := id rfl
theorem numC_cons (a : Nat) (c : UInt8) (l : List UInt8) : numC a (c :: l) = numC (stepC a c) l := id rfl
theorem numC_min : ∀ (l : List UInt8) (a : Nat), numC (min a 1000000) l = min (numV a l) 1000000
  | [], a => by rw [numC_nil, numV_nil]
  | c :: l, a => by
    rw [numC_cons, numV_cons, ← numC_min l (stepV a c)]
    congr 1
    unfold stepC stepV
    omega
theorem pow_loop {s : List UInt8} (hs : s.length ≤ 1000000) (st : St) : ∀ (l : List UInt8) (n a : Nat), s.drop n = l → a ≤ 1000000 →
    loopO (g60_L3 s) ([.int .i64 (a : Int), .int .i64 (n : Int)], st) = some (0, [.int .i64 (numC a (l.take (wh isDig l)) : Int), .int .i64 ((n + wh isDig l : Nat) : Int)], st)
  | [], n, a, hd, ha => by
    have h : isDig (s.getD n 0) = false := by rw [at_nil hd]; rfl
    refine loopO_inr ?_
    simp only [g60_L3, unc_cons, asI_int, un0_nil, call_at, call_rdigit, h, asB_bool, ifB_false]
    rfl
  | c :: l, n, a, hd, ha => by
    obtain ⟨hg, hr, hlt⟩ := drop_cons hd
    have hat := at_cons hd
    rw [wh_cons]
    cases hc : isDig c with
    | false =>
      have h : isDig (s.getD n 0) = false := by rw [hat]; exact hc
      refine loopO_inr ?_
      simp only [g60_L3, unc_cons, asI_int, un0_nil, call_at, call_rdigit, h, asB_bool, ifB_false]
      rfl
    | true =>
      have h : isDig (s.getD n 0) = true := by rw [hat]; exact hc
      have hcc : 48 ≤ c.toNat ∧ c.toNat ≤ 57 := by
        simpa only [isDig, Bool.and_eq_true, decide_eq_true_eq] using hc
      have he : s[n] = c := getElem_of hlt hg
      have w1 : IntKind.wrap .i64 ((a : Int) * 10) = ((a * 10 : Nat) : Int) := wrapN (n := a * 10) (by omega)
      have w2 : IntKind.wrap .i64 ((c.toNat : Nat) : Int) = ((c.toNat : Nat) : Int) := wrapN (by omega)
      have w3 : IntKind.wrap .i64 (((a * 10 : Nat) : Int) + ((c.toNat : Nat) : Int)) = ((a * 10 + c.toNat : Nat) : Int) := wrapA (by omega)
      have w4 : IntKind.wrap .i64 (((a * 10 + c.toNat : Nat) : Int) - 48) = ((a * 10 + c.toNat - 48 : Nat) : Int) := wrapS (m := 48) (by omega) (by omega)
      have w5 : (if (1000000 : Int) < ((a * 10 + c.toNat - 48 : Nat) : Int) then (1000000 : Int) else ((a * 10 + c.toNat - 48 : Nat) : Int)) = (stepC a c : Int) := by
        unfold stepC stepV
        split <;> omega
      have hb : stepC a c ≤ 1000000 := by unfold stepC; omega
      rw [loopO_inl (s' := ([.int .i64 (stepC a c : Int), .int .i64 ((n + 1 : Nat) : Int)], st)), pow_loop hs st l (n + 1) _ hr hb]
      · simp only [if_true, List.take_succ_cons, numC_cons]
        rw [show n + 1 + wh isDig l = n + (wh isDig l + 1) by omega]
      · simp only [g60_L3, unc_cons, asI_int, un0_nil, call_at, call_rdigit, h, asB_bool, ifB_true, letV_eq, w1, idxStr_nat hlt, he, w2, w3, w4, w5, wrapA1 (show n + 1 ≤ 9223372036854775807 by omega)]
theorem rremark_loop (s : List UInt8) (hs : s.length ≤ 1000000) (st : St) : ∀ (l : List UInt8) (i d : Nat), s.drop i = l → i ≤ s.length → 1 ≤ d → d ≤ i →
    loopO (g55_L1 s) ([.int .i64 (d : Int), .int .i64 0, .bool false, .int .i64 (i : Int)], st) = some (match rem l d with | some n => (1, [.int .i64 ((i + n : Nat) : Int), .bool true], st) | none => (0, [.int .i64 0, .bool false], st))
  | [], i, d, hd, hi, h1, h2 => by
    have := List.drop_eq_nil_iff.1 hd
    have q : ¬ (i : Int) < (s.length : Int) := by omega
    refine loopO_inr ?_
    simp only [g55_L1, unc_cons, asI_int, asB_bool, un0_nil, ifB_decide, if_neg q]
    rfl
  | [a], i, d, hd, hi, h1, h2 => by
    obtain ⟨hg, hr, hlt⟩ := drop_cons hd
    have q : (i : Int) < (s.length : Int) := by omega
    have ih := rremark_loop s hs st [] (i + 1) d hr (by omega) h1 (by omega)
    rw [loopO_inl (s' := ([.int .i64 (d : Int), .int .i64 0, .bool false, .int .i64 ((i + 1 : Nat) : Int)], st)), ih]
    · rfl
    · simp only [g55_L1, unc_cons, asI_int, un0_nil, ifB_decide, if_pos q, call_has s (t := [40, 42]) rfl (show i ≤ 1000000 by omega), call_has s (t := [42, 41]) rfl (show i ≤ 1000000 by omega), hd, asB_bool]
      simp only [show ([a].take 2 == [(40 : UInt8), 42]) = false by simp, show ([a].take 2 == [(42 : UInt8), 41]) = false by simp, ifB_false, letV_eq, bindO_ok, onSum_inl, unc_cons, asI_int, asB_bool, un0_nil, wrapA1 (show i + 1 ≤ 9223372036854775807 by omega)]
  | a :: b :: l, i, d, hd, hi, h1, h2 => by
    obtain ⟨hg, hr, hlt⟩ := drop_cons hd
    obtain ⟨hg2, hr2, hlt2⟩ := drop_cons hr
    have q : (i : Int) < (s.length : Int) := by omega
    have t1 : ((a :: b :: l).take 2 == [40, 42]) = (decide (a = 40 ∧ b = 42)) := by
      show ([a, b] == [40, 42]) = _
      by_cases h : a = 40 ∧ b = 42
      · rw [h.1, h.2]; rfl
      · rw [decide_eq_false h, beq_eq_false_iff_ne]
        intro e
        simp only [List.cons.injEq, and_true] at e
        exact h e
    have t2 : ((a :: b :: l).take 2 == [42, 41]) = (decide (a = 42 ∧ b = 41)) := by
      show ([a, b] == [42, 41]) = _
      by_cases h : a = 42 ∧ b = 41
      · rw [h.1, h.2]; rfl
      · rw [decide_eq_false h, beq_eq_false_iff_ne]
        intro e
        simp only [List.cons.injEq, and_true] at e
        exact h e
    by_cases c1 : a = 40 ∧ b = 42
    · have ih := rremark_loop s hs st l (i + 2) (d + 1) hr2 (by omega) (by omega) (by omega)
      rw [loopO_inl (s' := ([.int .i64 ((d + 1 : Nat) : Int), .int .i64 0, .bool false, .int .i64 ((i + 2 : Nat) : Int)], st)), ih]
      · simp only [rem, if_pos c1]
        cases rem l (d + 1) with
        | none => rfl
        | some n => simp only [Option.map_some]; rw [show i + 2 + n = i + (n + 2) by omega]
      · simp only [g55_L1, unc_cons, asI_int, un0_nil, ifB_decide, if_pos q, call_has s (t := [40, 42]) rfl (show i ≤ 1000000 by omega), hd, t1, if_pos c1, asB_bool, letV_eq, bindO_ok, onSum_inl, wrapA1 (show d + 1 ≤ 9223372036854775807 by omega), wrapA2 (show i + 2 ≤ 9223372036854775807 by omega)]
    · by_cases c2 : a = 42 ∧ b = 41
      · have w := wrapS (n := d) (m := 1) h1 (by omega)
        have w : IntKind.wrap .i64 ((d : Int) - 1) = ((d - 1 : Nat) : Int) := w
        by_cases c3 : d = 1
        · subst c3
          simp only [rem, if_neg c1, if_pos c2, if_true]
          refine loopO_inr ?_
          simp only [g55_L1, unc_cons, asI_int, un0_nil, ifB_decide, if_pos q, call_has s (t := [40, 42]) rfl (show i ≤ 1000000 by omega), call_has s (t := [42, 41]) rfl (show i ≤ 1000000 by omega), hd, t1, t2, if_neg c1, if_pos c2, asB_bool, letV_eq, bindO_ok, w, wrapA2 (show i + 2 ≤ 9223372036854775807 by omega), ifB_beq]
          rfl
        · have ih := rremark_loop s hs st l (i + 2) (d - 1) hr2 (by omega) (by omega) (by omega)
          have z : ¬ ((d - 1 : Nat) : Int) = 0 := by omega
          rw [loopO_inl (s' := ([.int .i64 ((d - 1 : Nat) : Int), .int .i64 0, .bool false, .int .i64 ((i + 2 : Nat) : Int)], st)), ih]
          · simp only [rem, if_neg c1, if_pos c2, if_neg c3]
            cases rem l (d - 1) with
            | none => rfl
            | some n => simp only [Option.map_some]; rw [show i + 2 + n = i + (n + 2) by omega]
          · simp only [g55_L1, unc_cons, asI_int, un0_nil, ifB_decide, if_pos q, call_has s (t := [40, 42]) rfl (show i ≤ 1000000 by omega), call_has s (t := [42, 41]) rfl (show i ≤ 1000000 by omega), hd, t1, t2, if_neg c1, if_pos c2, asB_bool, letV_eq, bindO_ok, w, wrapA2 (show i + 2 ≤ 9223372036854775807 by omega), ifB_beq, if_neg z, onSum_inl]
      · have ih := rremark_loop s hs st (b :: l) (i + 1) d hr (by omega) h1 (by omega)
        rw [loopO_inl (s' := ([.int .i64 (d : Int), .int .i64 0, .bool false, .int .i64 ((i + 1 : Nat) : Int)], st)), ih]
        · simp only [rem, if_neg c1, if_neg c2]
          cases rem (b :: l) d with
          | none => rfl
          | some n => simp only [Option.map_some]; rw [show i + 1 + n = i + (n + 1) by omega]
        · simp only [g55_L1, unc_cons, asI_int, un0_nil, ifB_decide, if_pos q, call_has s (t := [40, 42]) rfl (show i ≤ 1000000 by omega), call_has s (t := [42, 41]) rfl (show i ≤ 1000000 by omega), hd, t1, t2, if_neg c1, if_neg c2, asB_bool, letV_eq, bindO_ok, onSum_inl, wrapA1 (show i + 1 ≤ 9223372036854775807 by omega)]
theorem rremark_ok {s : List UInt8} (hs : s.length ≤ 1000000) (h2 : 2 ≤ s.length) : (orc vE).bare 55 [.str s] = some (match rem (s.drop 2) 1 with | some n => .tup [.int .i64 ((n + 2 : Nat) : Int), .bool true] | none => .tup [.int .i64 (s.length : Int), .bool false]) := by
  refine bare_of rfl ((g55_eq _).trans ?_)
  have e : loopO (g55_L1 s) ([.int .i64 1, .int .i64 0, .bool false, .int .i64 2], St.mk 0 0 Tr.leaf) = _ := rremark_loop s hs (St.mk 0 0 Tr.leaf) (s.drop 2) 2 1 rfl h2 (by omega) (by omega)
  simp only [g55, asS_str]
  rw [e]
  cases rem (s.drop 2) 1 with
  | none => simp only [bindO_ok, unc_cons, asI_int, asB_bool, un0_nil, sel2_zero]
  | some n => simp only [bindO_ok, unc_cons, asI_int, asB_bool, un0_nil, sel2_one]; rw [Nat.add_comm 2 n]
end Go.Proofs.YtgaciccgmjcbmaaDoor.Vm
/- Tokens: the reference's texts, numbers, cut. -/
set_option maxRecDepth 100000
set_option linter.unusedSimpArgs false
namespace Go.Proofs.YtgaciccgmjcbmaaDoor.Vm
open Go Go.VM Go.Proofs Go.Lex

/-- How a text's loop ends. -/
def Ends (st : St) (r : Option (Nat × Car)) (p : Nat × Nat) : Prop :=
  (∃ c : Int, r = some (1, [.int .u8 (p.1 : Int), .int .i64 (p.2 : Int), .int .i64 c], st)) ∨ (p.1 = 9 ∧ r = some (0, [.int .u8 0, .int .i64 0, .int .i64 (p.2 : Int)], st))
theorem bad_loop {s : List UInt8} (hs : s.length ≤ 1000000) (st : St) : ∀ (l : List UInt8) (i : Nat), s.drop i = l → i ≤ s.length →
    Ends st (loopO (g61_L1 s) ([.int .u8 0, .int .i64 0, .bool true, .int .i64 (i : Int)], st)) (9, i + badT l)
  | [], i, hd, hi => by
    have := List.drop_eq_nil_iff.1 hd
    have q : ¬ (i : Int) < (s.length : Int) := by omega
    refine .inr ⟨rfl, loopO_inr ?_⟩
    simp only [g61_L1, unc_cons, asI_int, asB_bool, un0_nil, ifB_decide, if_neg q, bindO_ok, ifB_false]
    rfl
  | c :: l, i, hd, hi => by
    obtain ⟨hg, hr, hlt⟩ := drop_cons hd
    have q : (i : Int) < (s.length : Int) := by omega
    have hc : s[i] = c := getElem_of hlt hg
    have b1 : ((c.toNat : Int) != 10) = (c != 10) := by unfold bne; rw [show ((c.toNat : Int) == 10) = (c == 10) from byte_beq c 10]
    have b2 : ((c.toNat : Int) == 34) = (c == 34) := byte_beq c 34
    have b3 : ((c.toNat : Int) == 92) = (c == 92) := byte_beq c 92
    by_cases c1 : c = 10
    · have z : (c != 10) = false := by simp [c1]
      simp only [badT, if_pos c1]
      refine .inr ⟨rfl, loopO_inr ?_⟩
      simp only [g61_L1, unc_cons, asI_int, asB_bool, un0_nil, ifB_decide, if_pos q, idxStr_nat hlt, hc, b1, z, bindO_ok, ifB_false]
      rfl
    · have z : (c != 10) = true := by simp [c1]
      by_cases c2 : c = 34
      · have z2 : (c == 34) = true := by simp [c2]
        simp only [badT, if_neg c1, if_pos c2]
        refine .inl ⟨(i : Int), loopO_inr ?_⟩
        simp only [g61_L1, unc_cons, asI_int, asB_bool, un0_nil, ifB_decide, if_pos q, idxStr_nat hlt, hc, b1, b2, z, z2, bindO_ok, ifB_true, letV_eq, wrapA1 (show i + 1 ≤ 9223372036854775807 by omega)]
        rfl
      · have z2 : (c == 34) = false := by simp [c2]
        have ih := bad_loop hs st l (i + 1) hr (by omega)
        rw [loopO_inl (s' := ([.int .u8 0, .int .i64 0, .bool true, .int .i64 ((i + 1 : Nat) : Int)], st))]
        · simp only [badT, if_neg c1, if_neg c2]
          rw [show i + (badT l + 1) = i + 1 + badT l by omega]
          exact ih
        · simp only [g61_L1, unc_cons, asI_int, asB_bool, un0_nil, ifB_decide, if_pos q, idxStr_nat hlt, hc, b1, b2, b3, z, z2, bindO_ok, ifB_true, ifB_false, letV_eq, Bool.not_true]
          cases c == 92 <;> simp only [ifB_true, ifB_false, bindO_ok, unc_cons, asB_bool, asI_int, un0_nil, letV_eq, wrapA1 (show i + 1 ≤ 9223372036854775807 by omega)]
theorem rtext_loop {s : List UInt8} (hs : s.length ≤ 1000000) (st : St) : ∀ (l : List UInt8) (i : Nat), s.drop i = l → i ≤ s.length →
    Ends st (loopO (g61_L1 s) ([.int .u8 0, .int .i64 0, .bool false, .int .i64 (i : Int)], st)) ((txt l).1, i + (txt l).2)
  | [], i, hd, hi => by
    have := List.drop_eq_nil_iff.1 hd
    have q : ¬ (i : Int) < (s.length : Int) := by omega
    refine .inr ⟨rfl, loopO_inr ?_⟩
    simp only [g61_L1, unc_cons, asI_int, asB_bool, un0_nil, ifB_decide, if_neg q, bindO_ok, ifB_false]
    rfl
  | [c], i, hd, hi => by
    obtain ⟨hg, hr, hlt⟩ := drop_cons hd
    have q : (i : Int) < (s.length : Int) := by omega
    have hc : s[i] = c := getElem_of hlt hg
    have b1 : ((c.toNat : Int) != 10) = (c != 10) := by unfold bne; rw [show ((c.toNat : Int) == 10) = (c == 10) from byte_beq c 10]
    have b2 : ((c.toNat : Int) == 34) = (c == 34) := byte_beq c 34
    have b3 : ((c.toNat : Int) == 92) = (c == 92) := byte_beq c 92
    by_cases c1 : c = 10
    · have z : (c != 10) = false := by simp [c1]
      simp only [txt, if_pos c1]
      refine .inr ⟨rfl, loopO_inr ?_⟩
      simp only [g61_L1, unc_cons, asI_int, asB_bool, un0_nil, ifB_decide, if_pos q, idxStr_nat hlt, hc, b1, z, bindO_ok, ifB_false]
      rfl
    · have z : (c != 10) = true := by simp [c1]
      by_cases c2 : c = 34
      · have z2 : (c == 34) = true := by simp [c2]
        simp only [txt, if_neg c1, if_pos c2]
        refine .inl ⟨(i : Int), loopO_inr ?_⟩
        simp only [g61_L1, unc_cons, asI_int, asB_bool, un0_nil, ifB_decide, if_pos q, idxStr_nat hlt, hc, b1, b2, z, z2, bindO_ok, ifB_true, ifB_false, letV_eq, wrapA1 (show i + 1 ≤ 9223372036854775807 by omega)]
        rfl
      · have z2 : (c == 34) = false := by simp [c2]
        simp only [txt, if_neg c1, if_neg c2]
        cases hb : c == 92 with
        | true =>
          rw [loopO_inl (s' := ([.int .u8 0, .int .i64 0, .bool true, .int .i64 ((i + 1 : Nat) : Int)], st))]
          · exact bad_loop hs st [] (i + 1) hr (by omega)
          · have ha := at_nil hr
            have e : (((0 : UInt8).toNat : Nat) : Int) = 0 := rfl
            simp only [g61_L1, unc_cons, asI_int, asB_bool, un0_nil, ifB_decide, if_pos q, idxStr_nat hlt, hc, b1, b2, b3, z, z2, hb, bindO_ok, ifB_true, ifB_false, letV_eq, Bool.not_false, wrapA1 (show i + 1 ≤ 9223372036854775807 by omega), call_at, ha, e]
            simp only [show ((0 : Int) == 110) = false from rfl, show ((0 : Int) == 116) = false from rfl, show ((0 : Int) == 92) = false from rfl, show ((0 : Int) == 34) = false from rfl, ifB_false, bindO_ok, unc_cons, asB_bool, asI_int, un0_nil, letV_eq, wrapA1 (show i + 1 ≤ 9223372036854775807 by omega)]
        | false =>
          rw [loopO_inl (s' := ([.int .u8 0, .int .i64 0, .bool false, .int .i64 ((i + 1 : Nat) : Int)], st))]
          · exact rtext_loop hs st [] (i + 1) hr (by omega)
          · simp only [g61_L1, unc_cons, asI_int, asB_bool, un0_nil, ifB_decide, if_pos q, idxStr_nat hlt, hc, b1, b2, b3, z, z2, hb, bindO_ok, ifB_true, ifB_false, letV_eq, wrapA1 (show i + 1 ≤ 9223372036854775807 by omega)]
  | c :: d :: l, i, hd, hi => by
    obtain ⟨hg, hr, hlt⟩ := drop_cons hd
    obtain ⟨hg2, hr2, hlt2⟩ := drop_cons hr
    have q : (i : Int) < (s.length : Int) := by omega
    have hc : s[i] = c := getElem_of hlt hg
    have b1 : ((c.toNat : Int) != 10) = (c != 10) := by unfold bne; rw [show ((c.toNat : Int) == 10) = (c == 10) from byte_beq c 10]
    have b2 : ((c.toNat : Int) == 34) = (c == 34) := byte_beq c 34
    have b3 : ((c.toNat : Int) == 92) = (c == 92) := byte_beq c 92
    by_cases c1 : c = 10
    · have z : (c != 10) = false := by simp [c1]
      simp only [txt, if_pos c1]
      refine .inr ⟨rfl, loopO_inr ?_⟩
      simp only [g61_L1, unc_cons, asI_int, asB_bool, un0_nil, ifB_decide, if_pos q, idxStr_nat hlt, hc, b1, z, bindO_ok, ifB_false]
      rfl
    · have z : (c != 10) = true := by simp [c1]
      by_cases c2 : c = 34
      · have z2 : (c == 34) = true := by simp [c2]
        simp only [txt, if_neg c1, if_pos c2]
        refine .inl ⟨(i : Int), loopO_inr ?_⟩
        simp only [g61_L1, unc_cons, asI_int, asB_bool, un0_nil, ifB_decide, if_pos q, idxStr_nat hlt, hc, b1, b2, z, z2, bindO_ok, ifB_true, ifB_false, letV_eq, wrapA1 (show i + 1 ≤ 9223372036854775807 by omega)]
        rfl
      · have z2 : (c == 34) = false := by simp [c2]
        simp only [txt, if_neg c1, if_neg c2]
        cases hb : c == 92 with
        | true =>
          have hb' : c = 92 := eq_of_beq hb
          simp only [if_pos hb']
          have ha := at_cons hr
          have d1 : ((d.toNat : Int) == 110) = (d == 110) := byte_beq d 110
          have d2 : ((d.toNat : Int) == 116) = (d == 116) := byte_beq d 116
          have d3 : ((d.toNat : Int) == 92) = (d == 92) := byte_beq d 92
          have d4 : ((d.toNat : Int) == 34) = (d == 34) := byte_beq d 34
          have esc : ∀ (st : St) {β : Type} (K : List AV × St → Option β), (bindO (ifB (d == 110) (some ([AV.bool true], st)) (ifB (d == 116) (some ([AV.bool true], st)) (ifB (d == 92) (some ([AV.bool true], st)) (some ([AV.bool (d == 34)], st))))) K) = K ([AV.bool (isEsc d)], st) := by
            intro st β K
            unfold isEsc
            cases d == 110 <;> cases d == 116 <;> cases d == 92 <;> rfl
          cases he : isEsc d with
          | true =>
            simp only [if_true]
            rw [loopO_inl (s' := ([.int .u8 0, .int .i64 0, .bool false, .int .i64 ((i + 2 : Nat) : Int)], st)), show i + ((txt l).2 + 2) = i + 2 + (txt l).2 by omega]
            · exact rtext_loop hs st l (i + 2) hr2 (by omega)
            · simp only [g61_L1, unc_cons, asI_int, asB_bool, un0_nil, ifB_decide, if_pos q, idxStr_nat hlt, hc, b1, b2, b3, z, z2, hb, bindO_ok, ifB_true, ifB_false, letV_eq, Bool.not_false, wrapA1 (show i + 1 ≤ 9223372036854775807 by omega), call_at, ha, d1, d2, d3, d4, esc, he, wrapA1 (show i + 1 + 1 ≤ 9223372036854775807 by omega)]
          | false =>
            simp only [Bool.false_eq_true, if_false]
            rw [loopO_inl (s' := ([.int .u8 0, .int .i64 0, .bool true, .int .i64 ((i + 1 : Nat) : Int)], st)), show i + (badT (d :: l) + 1) = i + 1 + badT (d :: l) by omega]
            · exact bad_loop hs st (d :: l) (i + 1) hr (by omega)
            · simp only [g61_L1, unc_cons, asI_int, asB_bool, un0_nil, ifB_decide, if_pos q, idxStr_nat hlt, hc, b1, b2, b3, z, z2, hb, bindO_ok, ifB_true, ifB_false, letV_eq, Bool.not_false, wrapA1 (show i + 1 ≤ 9223372036854775807 by omega), call_at, ha, d1, d2, d3, d4, esc, he]
        | false =>
          have hb' : ¬ c = 92 := by simpa using hb
          simp only [if_neg hb']
          rw [loopO_inl (s' := ([.int .u8 0, .int .i64 0, .bool false, .int .i64 ((i + 1 : Nat) : Int)], st)), show i + ((txt (d :: l)).2 + 1) = i + 1 + (txt (d :: l)).2 by omega]
          · exact rtext_loop hs st (d :: l) (i + 1) hr (by omega)
          · simp only [g61_L1, unc_cons, asI_int, asB_bool, un0_nil, ifB_decide, if_pos q, idxStr_nat hlt, hc, b1, b2, b3, z, z2, hb, bindO_ok, ifB_true, ifB_false, letV_eq, wrapA1 (show i + 1 ≤ 9223372036854775807 by omega)]
theorem rtext_ok {c : UInt8} {l : List UInt8} (hs : (c :: l).length ≤ 1000000) : (orc vE).bare 61 [.str (c :: l)] = some (.tup [.int .u8 ((txt l).1 : Int), .int .i64 (((txt l).2 + 1 : Nat) : Int)]) := by
  refine bare_of rfl ((g61_eq _).trans ?_)
  have e := rtext_loop hs (St.mk 0 0 Tr.leaf) l 1 rfl (by simp)
  rw [Nat.add_comm 1 (txt l).2] at e
  simp only [g61, asS_str]
  rcases e with ⟨x, e⟩ | ⟨h9, e⟩
  · have e : loopO (g61_L1 (c :: l)) ([.int .u8 0, .int .i64 0, .bool false, .int .i64 1], St.mk 0 0 Tr.leaf) = _ := e
    rw [e]
    simp only [bindO_ok, unc_cons, asI_int, un0_nil, sel2_one]
  · have e : loopO (g61_L1 (c :: l)) ([.int .u8 0, .int .i64 0, .bool false, .int .i64 1], St.mk 0 0 Tr.leaf) = _ := e
    have h9 : (txt l).1 = 9 := h9
    rw [e, h9]
    simp only [bindO_ok, unc_cons, asI_int, un0_nil, sel2_zero]
    rfl
end Go.Proofs.YtgaciccgmjcbmaaDoor.Vm
/- Tokens: the reference's numbers, cut. -/
set_option maxRecDepth 100000
set_option linter.unusedSimpArgs false
namespace Go.Proofs.YtgaciccgmjcbmaaDoor.Vm
open Go Go.VM Go.Proofs Go.Lex

theorem head_at (s : List UInt8) (n : Nat) (d : UInt8) (hd : d ≠ 0) : (s.getD n 0 == d) = decide ((s.drop n).head? = some d) := by
  cases h : s.drop n with
  | nil =>
    rw [at_nil h]
    simp
    exact fun e => hd e.symm
  | cons c l =>
    rw [at_cons h]
    by_cases e : c = d
    · subst e; simp
    · rw [beq_eq_false_iff_ne.2 e]
      simp [e]
/-- What the reference makes of an exponent. -/
theorem rexpo {s : List UInt8} (hs : s.length ≤ 1000000) (e : Nat) (pw : Int) (hp : -2000000 ≤ pw) (hp2 : pw ≤ 2000000) (he : e ≤ s.length) {β : Type} (st : St) (K : Car → Option β) :
    (bindO (callS (orc vE) 53 [AV.str s, AV.int .i64 (e : Int)] st fun v43 st44 _x => asI .u8 v43 fun n46 => ifB (n46 == 101) (some
 ([AV.bool true], st44)) (callS (orc vE) 53 [AV.str s, AV.int .i64 (e : Int)] st44 fun v47 st48 _x => asI .u8 v47 fun n50 => some ([AV.bool (n50 == 69)], st48))) fun c51 => unc (Prod.fst c51) fun v52 l53 => asB v52 fun b54 =>
 un0 l53 (bindO (ifB b54 (letV (IntKind.wrap .i64 ((e : Int) + 1)) fun n55 => callS (orc vE) 53 [AV.str s, AV.int .i64 n55] (Prod.snd c51) fun v56 st57 _x => asI .u8 v56 fun n59 => bindO (ifB (n59 == 45) (some ([AV.bool
 true], st57)) (callS (orc vE) 53 [AV.str s, AV.int .i64 n55] st57 fun v60 st61 _x => asI .u8 v60 fun n63 => some ([AV.bool (n63 == 43)], st61))) fun c64 => unc (Prod.fst c64) fun v65 l66 => asB v65 fun b67 => un0 l66
 (bindO (ifB b67 (letV (IntKind.wrap .i64 (n55 + 1)) fun n68 => some ([AV.int .i64 n68], Prod.snd c64)) (some ([AV.int .i64 n55], Prod.snd c64))) fun c69 => unc (Prod.fst c69) fun v70 l71 => asI .i64 v70 fun n72 => un0
 l71 (bindO (loopO (g60_L3 s) ([AV.int .i64 0, AV.int .i64 n72], Prod.snd c69)) fun c95 => unc (Prod.fst (Prod.snd c95)) fun v96 l97 => asI .i64 v96 fun n98 => unc l97 fun v99 l100 => asI .i64 v99 fun n101 => un0 l100
 (bindO (ifB (decide (n101 > n72)) (bindO (ifB (n59 == 45) (letV (IntKind.wrap .i64 (0 - n98)) fun n102 => some ([AV.int .i64 n102], Prod.snd (Prod.snd c95))) (some ([AV.int .i64 n98], Prod.snd (Prod.snd c95)))) fun c103
 => unc (Prod.fst c103) fun v104 l105 => asI .i64 v104 fun n106 => un0 l105 (letV (IntKind.wrap .i64 (pw + n106)) fun n107 => some ([AV.int .i64 n101, AV.int .i64 n107], Prod.snd c103))) (some ([AV.int .i64 (e : Int), AV.int .i64
 pw], Prod.snd (Prod.snd c95)))) fun c108 => unc (Prod.fst c108) fun v109 l110 => asI .i64 v109 fun n111 => unc l110 fun v112 l113 => asI .i64 v112 fun n114 => un0 l113 (some ([AV.int .i64 n111, AV.int .i64 n114],
 Prod.snd c108)))))) (some ([AV.int .i64 (e : Int), AV.int .i64 pw], Prod.snd c51))) K)) = K ([.int .i64 ((e + (expo (s.drop e)).1 : Nat) : Int), .int .i64 (pw + (expo (s.drop e)).2)], st) := by
  have a1 : ((((s.getD e 0).toNat : Nat) : Int) == 101) = (s.getD e 0 == 101) := byte_beq _ 101
  have a2 : ((((s.getD e 0).toNat : Nat) : Int) == 69) = (s.getD e 0 == 69) := byte_beq _ 69
  have w1 := wrapA1 (show e + 1 ≤ 9223372036854775807 by omega)
  have a3 : ((((s.getD (e + 1) 0).toNat : Nat) : Int) == 45) = (s.getD (e + 1) 0 == 45) := byte_beq _ 45
  have a4 : ((((s.getD (e + 1) 0).toNat : Nat) : Int) == 43) = (s.getD (e + 1) 0 == 43) := byte_beq _ 43
  have isE : ∀ (st : St) {γ : Type} (K : List AV × St → Option γ), bindO (ifB (s.getD e 0 == 101) (some ([AV.bool true], st)) (some ([AV.bool (s.getD e 0 == 69)], st))) K = K ([AV.bool (s.getD e 0 == 101 || s.getD e 0 == 69)], st) := by
    intro st γ K
    cases s.getD e 0 == 101 <;> rfl
  have isS : ∀ (st : St) {γ : Type} (K : List AV × St → Option γ), bindO (ifB (s.getD (e + 1) 0 == 45) (some ([AV.bool true], st)) (some ([AV.bool (s.getD (e + 1) 0 == 43)], st))) K = K ([AV.bool (isSgn (s.getD (e + 1) 0))], st) := by
    intro st γ K
    unfold isSgn
    cases s.getD (e + 1) 0 == 45 <;> cases s.getD (e + 1) 0 == 43 <;> rfl
  simp only [call_at, asI_int, a1, a2, isE, unc_cons, asB_bool, un0_nil]
  cases hd : s.drop e with
  | nil =>
    rw [at_nil hd]
    simp only [show ((0 : UInt8) == 101 || (0 : UInt8) == 69) = false from rfl, ifB_false, bindO_ok, expo]
    simp
  | cons c l =>
    obtain ⟨hg, hr, hlt⟩ := drop_cons hd
    rw [at_cons hd]
    by_cases hc : c = 101 ∨ c = 69
    · have hc' : (c == 101 || c == 69) = true := by simpa using hc
      have hsg : sgn l = if isSgn (s.getD (e + 1) 0) = true then 1 else 0 := by
        cases l with
        | nil => rw [at_nil hr]; rfl
        | cons d r => rw [at_cons hr]; rfl
      have hsl := sgn_le l
      have hll : l.length = s.length - (e + 1) := by rw [← hr, List.length_drop]
      have hmi : (s.getD (e + 1) 0 == 45) = decide (l.head? = some 45) := by rw [head_at s (e + 1) 45 (by decide), hr]
      have sg : ∀ (st : St) {γ : Type} (K : List AV × St → Option γ), bindO (ifB (isSgn (s.getD (e + 1) 0)) (some ([AV.int .i64 ((e + 1 + 1 : Nat) : Int)], st)) (some ([AV.int .i64 ((e + 1 : Nat) : Int)], st))) K = K ([AV.int .i64 ((e + 1 + sgn l : Nat) : Int)], st) := by
        intro st γ K
        rw [hsg]
        cases isSgn (s.getD (e + 1) 0) <;> rfl
      have hd2 : s.drop (e + 1 + sgn l) = l.drop (sgn l) := by rw [← hr, List.drop_drop]
      have lp := fun st => pow_loop hs st (l.drop (sgn l)) (e + 1 + sgn l) 0 hd2 (by omega)
      have lp : ∀ st, loopO (g60_L3 s) ([.int .i64 0, .int .i64 ((e + 1 + sgn l : Nat) : Int)], st) = _ := lp
      simp only [hc', ifB_true, letV_eq, w1, call_at, asI_int, a3, a4, isS, unc_cons, asB_bool, un0_nil, wrapA1 (show e + 1 + 1 ≤ 9223372036854775807 by omega), sg, lp, bindO_ok]
      have hx : numC 0 ((l.drop (sgn l)).take (wh isDig (l.drop (sgn l)))) = min (numV 0 ((l.drop (sgn l)).take (wh isDig (l.drop (sgn l))))) 1000000 := numC_min _ 0
      simp only [expo, if_pos hc]
      by_cases hz : wh isDig (l.drop (sgn l)) = 0
      · have q : ¬ (((e + 1 + sgn l + wh isDig (l.drop (sgn l)) : Nat) : Int) > ((e + 1 + sgn l : Nat) : Int)) := by omega
        simp only [ifB_decide, if_neg q, bindO_ok, unc_cons, asI_int, un0_nil, if_pos hz]
        simp
      · have q : (((e + 1 + sgn l + wh isDig (l.drop (sgn l)) : Nat) : Int) > ((e + 1 + sgn l : Nat) : Int)) := by omega
        simp only [ifB_decide, if_pos q, bindO_ok, unc_cons, asI_int, un0_nil, if_neg hz, hx, hmi]
        generalize hN : numV 0 ((l.drop (sgn l)).take (wh isDig (l.drop (sgn l)))) = N
        by_cases hm : l.head? = some 45
        · have w2 : IntKind.wrap .i64 (0 - ((min N 1000000 : Nat) : Int)) = -((min N 1000000 : Nat) : Int) := by
            rw [wrap_i64 (by omega) (by omega)]; omega
          have w3 : IntKind.wrap .i64 (pw + -((min N 1000000 : Nat) : Int)) = pw + -((min N 1000000 : Nat) : Int) := wrap_i64 (by omega) (by omega)
          simp only [if_pos hm, letV_eq, w2, bindO_ok, unc_cons, asI_int, un0_nil, w3]
          rw [show e + 1 + sgn l + wh isDig (l.drop (sgn l)) = e + (1 + sgn l + wh isDig (l.drop (sgn l))) by omega]
        · have w3 : IntKind.wrap .i64 (pw + ((min N 1000000 : Nat) : Int)) = pw + ((min N 1000000 : Nat) : Int) := wrap_i64 (by omega) (by omega)
          simp only [if_neg hm, letV_eq, bindO_ok, unc_cons, asI_int, un0_nil, w3]
          rw [show e + 1 + sgn l + wh isDig (l.drop (sgn l)) = e + (1 + sgn l + wh isDig (l.drop (sgn l))) by omega]
    · have hc' : (c == 101 || c == 69) = false := by simpa using hc
      simp only [hc', ifB_false, bindO_ok, expo, if_neg hc]
      simp
theorem expo_bound (s : List UInt8) : -1000000 ≤ (expo s).2 ∧ (expo s).2 ≤ 1000000 := by
  unfold expo
  split
  · simp
  · split
    · dsimp only
      split
      · simp
      · dsimp only
        split <;> omega
    · simp
theorem rnumber {s : List UInt8} (hs : s.length ≤ 1000000) (h1 : 1 ≤ wh isDig s) : (orc vE).bare 60 [.str s] = some (.tup [.int .u8 ((number s).1 : Int), .int .i64 ((number s).2 : Int)]) := by
  refine bare_of rfl ((g60_eq _).trans ?_)
  have l1 : loopO (g60_L1 s) ([.int .i64 0], St.mk 0 0 Tr.leaf) = some (0, [.int .i64 ((wh isDig s : Nat) : Int)], St.mk 0 0 Tr.leaf) := by
    have := num_loop1 hs (St.mk 0 0 Tr.leaf) (n := 0) (l := s) rfl
    rw [Nat.zero_add] at this
    exact this
  have hw := wh_le isDig s
  have hd := head_at s (wh isDig s) 46 (by decide)
  have hd' : ((((s.getD (wh isDig s) 0).toNat : Nat) : Int) != 46) = !(decide ((s.drop (wh isDig s)).head? = some 46)) := by
    unfold bne
    rw [← hd, show ((((s.getD (wh isDig s) 0).toNat : Nat) : Int) == 46) = (s.getD (wh isDig s) 0 == 46) from byte_beq _ 46]
  simp only [g60, asS_str, l1, bindO_ok, unc_cons, asI_int, un0_nil, call_at, hd']
  have hnum : number s = if (s.drop (wh isDig s)).head? = some 46 then (if wh isDig s + wh isDig (s.drop (wh isDig s + 1)) > 15 ∨ (expo (s.drop (wh isDig s + 1 + wh isDig (s.drop (wh isDig s + 1))))).2 - (wh isDig (s.drop (wh isDig s + 1)) : Int) < -22 ∨ (expo (s.drop (wh isDig s + 1 + wh isDig (s.drop (wh isDig s + 1))))).2 - (wh isDig (s.drop (wh isDig s + 1)) : Int) > 22 then 9 else 6, wh isDig s + 1 + wh isDig (s.drop (wh isDig s + 1)) + (expo (s.drop (wh isDig s + 1 + wh isDig (s.drop (wh isDig s + 1))))).1) else (5, wh isDig s) := rfl
  rw [hnum]
  by_cases h46 : (s.drop (wh isDig s)).head? = some 46
  · have hlt : wh isDig s < s.length := by
      rcases Nat.lt_or_ge (wh isDig s) s.length with q | q
      · exact q
      · rw [List.drop_of_length_le q] at h46; cases h46
    have l2 := num_loop2 hs (St.mk 0 0 Tr.leaf) (n := wh isDig s + 1) (l := s.drop (wh isDig s + 1)) rfl
    have hk := wh_le isDig (s.drop (wh isDig s + 1))
    rw [List.length_drop] at hk
    generalize hn : wh isDig s = n at *
    generalize hkk : wh isDig (s.drop (n + 1)) = k at *
    have w1 := wrapA1 (show n + 1 ≤ 9223372036854775807 by omega)
    have w2 : IntKind.wrap .i64 (((n + 1 : Nat) : Int) - ((n + 1 + k : Nat) : Int)) = -(k : Int) := by rw [wrap_i64 (by omega) (by omega)]; omega
    have w3 : IntKind.wrap .i64 (((n + 1 + k : Nat) : Int) - 1) = ((n + k : Nat) : Int) := by rw [wrap_i64 (by omega) (by omega)]; omega
    simp only [decide_eq_true h46, Bool.not_true, ifB_false, letV_eq, w1, l2, bindO_ok, unc_cons, asI_int, un0_nil, w2, w3, if_pos h46]
    have re := fun (K : Car → Option AV) => rexpo hs (n + 1 + k) (-(k : Int)) (by omega) (by omega) (by omega) (St.mk 0 0 Tr.leaf) K
    simp only [letV_eq] at re
    rw [re]
    have hb := expo_bound (s.drop (n + 1 + k))
    generalize (expo (s.drop (n + 1 + k))).1 = x1 at *
    generalize (expo (s.drop (n + 1 + k))).2 = x2 at *
    simp only [unc_cons, asI_int, un0_nil]
    by_cases c1 : n + k > 15
    · have q : ((n + k : Nat) : Int) > 15 := by omega
      simp only [ifB_decide, if_pos q, bindO_ok, unc_cons, asB_bool, un0_nil, ifB_true, if_pos (show n + k > 15 ∨ x2 - (k : Int) < -22 ∨ x2 - (k : Int) > 22 from .inl c1)]
      rfl
    · have q : ¬ ((n + k : Nat) : Int) > 15 := by omega
      by_cases c2 : x2 - (k : Int) < -22
      · have q2 : -(k : Int) + x2 < -22 := by omega
        simp only [ifB_decide, if_neg q, if_pos q2, bindO_ok, unc_cons, asB_bool, un0_nil, ifB_true, if_pos (show n + k > 15 ∨ x2 - (k : Int) < -22 ∨ x2 - (k : Int) > 22 from .inr (.inl c2))]
        rfl
      · have q2 : ¬ -(k : Int) + x2 < -22 := by omega
        by_cases c3 : x2 - (k : Int) > 22
        · have q3 : -(k : Int) + x2 > 22 := by omega
          simp only [ifB_decide, if_neg q, if_neg q2, if_pos q3, bindO_ok, unc_cons, asB_bool, un0_nil, if_pos (show n + k > 15 ∨ x2 - (k : Int) < -22 ∨ x2 - (k : Int) > 22 from .inr (.inr c3))]
          rfl
        · have q3 : ¬ -(k : Int) + x2 > 22 := by omega
          simp only [ifB_decide, if_neg q, if_neg q2, if_neg q3, bindO_ok, unc_cons, asB_bool, un0_nil, if_neg (show ¬ (n + k > 15 ∨ x2 - (k : Int) < -22 ∨ x2 - (k : Int) > 22) by omega)]
          rfl
  · simp only [decide_eq_false h46, Bool.not_false, ifB_true, if_neg h46]
    rfl
end Go.Proofs.YtgaciccgmjcbmaaDoor.Vm
/- Tokens: the reference's cut and its tokens. -/
set_option maxRecDepth 100000
set_option linter.unusedSimpArgs false
namespace Go.Proofs.YtgaciccgmjcbmaaDoor.Vm
open Go Go.VM Go.Proofs Go.Lex

def wordsL : AV := AV.sl 1 [AV.str [108, 101, 116], AV.str [114, 101, 99], AV.str [105, 110], AV.str [102, 117, 110], AV.str [105, 102], AV.str [116, 104, 101, 110], AV.str [101, 108, 115, 101], AV.str [109, 97, 116, 99, 104], AV.str [119, 105, 116, 104], AV.str [116, 114, 117, 101], AV.str [102, 97, 108, 115, 101], AV.str [109, 111, 100]] Perm.shut
def twosL : AV := AV.sl 1 [AV.str [45, 62], AV.str [58, 58], AV.str [60, 62], AV.str [60, 61], AV.str [62, 61], AV.str [43, 46], AV.str [45, 46], AV.str [42, 46], AV.str [47, 46], AV.str [38, 38], AV.str [124, 124]] Perm.shut
theorem strs_idx (l : List (List UInt8)) (hl : l.length ≤ 1000) {j : Nat} {w : List UInt8} (h : l[j]? = some w) {β : Type} (st : St) (K : AV → List Nat → Option β) : idxA 1 (AV.sl 1 (l.map AV.str) .shut) (j : Int) st K = K (.ip [.str w]) [] :=
  (IsSl.shut (z := 1) (es := l.map AV.str) (by rw [List.length_map]; omega)).idx (by rw [List.getElem?_map, h]; rfl) st K
theorem words_idx {j : Nat} {w : List UInt8} (h : words[j]? = some w) {β : Type} (st : St) (K : AV → List Nat → Option β) : idxA 1 wordsL (j : Int) st K = K (.ip [.str w]) [] := strs_idx words (by decide) h st K
theorem twos_idx {j : Nat} {w : List UInt8} (h : twos[j]? = some w) {β : Type} (st : St) (K : AV → List Nat → Option β) : idxA 1 twosL (j : Int) st K = K (.ip [.str w]) [] := strs_idx twos (by decide) h st K
theorem word_loop (w : List UInt8) (st : St) : ∀ (l : List (List UInt8)) (j : Nat), words.drop j = l → l.length + j = 12 →
    loopO (g58_L1 w) ([.bool false, .int .i64 (j : Int)], st) = some (if l.contains w then (1, [.bool true], st) else (0, [.bool false], st))
  | [], j, hd, hj => by
    have q : ¬ (j : Int) < 12 := by simp at hj; omega
    refine loopO_inr ?_
    simp only [g58_L1, unc_cons, asB_bool, asI_int, un0_nil, ifB_decide, if_neg q]
    rfl
  | x :: l, j, hd, hj => by
    obtain ⟨hg, hr, hlt⟩ := drop_cons hd
    have q : (j : Int) < 12 := by simp at hj; omega
    have hidx := fun {β : Type} (st : St) (K : AV → List Nat → Option β) => words_idx hg st K
    unfold wordsL at hidx
    rw [List.contains_cons, BEq.comm]
    cases hx : x == w with
    | true =>
      refine loopO_inr ?_
      simp only [g58_L1, unc_cons, asB_bool, asI_int, un0_nil, ifB_decide, if_pos q, hidx, loadS_ip, takeO_one, bindO_ok, asS_str, hx, ifB_true, Bool.true_or, if_true]
    | false =>
      rw [loopO_inl (s' := ([.bool false, .int .i64 ((j + 1 : Nat) : Int)], st)), word_loop w st l (j + 1) hr (by simp at hj; omega), Bool.false_or]
      simp only [g58_L1, unc_cons, asB_bool, asI_int, un0_nil, ifB_decide, if_pos q, hidx, loadS_ip, takeO_one, bindO_ok, asS_str, hx, ifB_false, letV_eq, wrapA1 (show j + 1 ≤ 9223372036854775807 by simp at hj; omega)]
theorem rword (w : List UInt8) : (orc vE).bare 58 [.str w] = some (.bool (words.contains w)) := by
  refine bare_of rfl ((g58_eq _).trans ?_)
  have e : loopO (g58_L1 w) ([.bool false, .int .i64 0], St.mk 0 0 Tr.leaf) = _ := word_loop w (St.mk 0 0 Tr.leaf) words 0 rfl rfl
  simp only [g58, asS_str]
  rw [e]
  cases words.contains w <;> rfl
theorem call_rword {β : Type} (w : List UInt8) (st : St) (K : Kv β) : callS (orc vE) 58 [.str w] st K = K (.bool (words.contains w)) st q0 := callS_bare st K rfl rfl rfl (rword w)
theorem twos_len {t : List UInt8} {j : Nat} (h : twos[j]? = some t) : t.length = 2 := by
  have hm := List.mem_of_getElem? h
  simp only [twos, List.mem_cons, List.not_mem_nil, or_false] at hm
  rcases hm with rfl | rfl | rfl | rfl | rfl | rfl | rfl | rfl | rfl | rfl | rfl <;> rfl
theorem two_loop (s : List UInt8) (st : St) : ∀ (l : List (List UInt8)) (j : Nat), twos.drop j = l → l.length + j = 11 →
    loopO (g41_L3 s) ([.int .u8 0, .int .i64 0, .int .i64 (j : Int)], st) = some (if l.contains (s.take 2) then (1, [.int .u8 8, .int .i64 2], st) else (0, [.int .u8 0, .int .i64 0], st))
  | [], j, hd, hj => by
    have q : ¬ (j : Int) < 11 := by simp at hj; omega
    refine loopO_inr ?_
    simp only [g41_L3, unc_cons, asI_int, un0_nil, ifB_decide, if_neg q]
    rfl
  | x :: l, j, hd, hj => by
    obtain ⟨hg, hr, hlt⟩ := drop_cons hd
    have q : (j : Int) < 11 := by simp at hj; omega
    have hidx := fun {β : Type} (st : St) (K : AV → List Nat → Option β) => twos_idx hg st K
    have hh := fun {β : Type} (st : St) (K : Kv β) => call_has0 s (twos_len hg) st K
    unfold twosL at hidx
    rw [List.contains_cons]
    cases hx : s.take 2 == x with
    | true =>
      refine loopO_inr ?_
      simp only [g41_L3, unc_cons, asI_int, un0_nil, ifB_decide, if_pos q, hidx, loadS_ip, takeO_one, bindO_ok, asS_str, hh, hx, asB_bool, ifB_true, Bool.true_or, if_true]
    | false =>
      rw [loopO_inl (s' := ([.int .u8 0, .int .i64 0, .int .i64 ((j + 1 : Nat) : Int)], st)), two_loop s st l (j + 1) hr (by simp at hj; omega), Bool.false_or]
      simp only [g41_L3, unc_cons, asI_int, un0_nil, ifB_decide, if_pos q, hidx, loadS_ip, takeO_one, bindO_ok, asS_str, hh, hx, asB_bool, ifB_false, letV_eq, wrapA1 (show j + 1 ≤ 9223372036854775807 by simp at hj; omega)]
theorem one_loop (c : UInt8) (st : St) : ∀ (l : List UInt8) (j : Nat), ones1.drop j = l → l.length + j = 16 →
    loopO (g41_L4 c) ([.int .u8 0, .int .i64 0, .int .i64 (j : Int)], st) = some (if l.contains c then (1, [.int .u8 8, .int .i64 1], st) else (0, [.int .u8 0, .int .i64 0], st))
  | [], j, hd, hj => by
    have q : ¬ (j : Int) < 16 := by simp at hj; omega
    refine loopO_inr ?_
    simp only [g41_L4, unc_cons, asI_int, un0_nil, ifB_decide, if_neg q]
    rfl
  | x :: l, j, hd, hj => by
    obtain ⟨hg, hr, hlt⟩ := drop_cons hd
    have q : (j : Int) < 16 := by simp at hj; omega
    have hi := fun {β : Type} (K : UInt8 → Option β) => idxStr_nat hlt K
    have he : ones1[j] = x := getElem_of hlt hg
    rw [he] at hi
    unfold ones1 at hi
    have hb := byte_beq x c
    rw [List.contains_cons, BEq.comm]
    cases hx : x == c with
    | true =>
      rw [hx] at hb
      refine loopO_inr ?_
      simp only [g41_L4, unc_cons, asI_int, un0_nil, ifB_decide, if_pos q, hi, hb, ifB_true, Bool.true_or, if_true]
    | false =>
      rw [hx] at hb
      rw [loopO_inl (s' := ([.int .u8 0, .int .i64 0, .int .i64 ((j + 1 : Nat) : Int)], st)), one_loop c st l (j + 1) hr (by simp at hj; omega), Bool.false_or]
      simp only [g41_L4, unc_cons, asI_int, un0_nil, ifB_decide, if_pos q, hi, hb, ifB_false, letV_eq, wrapA1 (show j + 1 ≤ 9223372036854775807 by simp at hj; omega)]
theorem rcut {s : List UInt8} (hne : s ≠ []) (hs : s.length ≤ 1000000) : (orc vE).bare 41 [.str s] = some (.tup [.int .u8 ((cut s).1 : Int), .int .i64 ((cut s).2 : Int)]) := by
  cases s with
  | nil => exact absurd rfl hne
  | cons c l =>
  refine bare_of rfl ((g41_eq _).trans ?_)
  have i0 : ∀ {β : Type} (K : UInt8 → Option β), idxStr (c :: l) 0 K = K c := fun K => idxStr_nat (k := 0) (by simp) K
  have hh := fun {β : Type} (st : St) (K : Kv β) => call_has0 (c :: l) (t := [40, 42]) rfl st K
  simp only [g41, asS_str, i0, call_rblank, asB_bool]
  unfold cut
  dsimp only
  cases hb : isBlank c with
  | true =>
    have e : loopO (g41_L1 (c :: l)) ([.int .i64 0], St.mk 0 0 Tr.leaf) = some (0, [.int .i64 ((wh isBlank (c :: l) : Nat) : Int)], St.mk 0 0 Tr.leaf) := by
      have := cut_loop1 hs (St.mk 0 0 Tr.leaf) (n := 0) (l := c :: l) rfl
      rw [Nat.zero_add] at this
      exact this
    simp only [ifB_true, e, bindO_ok, unc_cons, asI_int, un0_nil, if_true]
    rfl
  | false =>
  simp only [ifB_false, hh, asB_bool, Bool.false_eq_true, if_false]
  by_cases hr : (c :: l).take 2 = [40, 42]
  · have hr' : ((c :: l).take 2 == [40, 42]) = true := beq_iff_eq.2 hr
    have hl : 2 ≤ (c :: l).length := by
      have := congrArg List.length hr
      rw [List.length_take] at this
      simp at this; simp; omega
    have e := fun {β : Type} (st : St) (K : Kv β) => callS_bare st K rfl rfl rfl (rremark_ok hs hl)
    simp only [hr', ifB_true, e, if_pos hr]
    cases rem (List.drop 2 (c :: l)) 1 with
    | some n => simp only [unT_tup, nthS_zero, nthS_one, asI_int, asB_bool, ifB_true]; rfl
    | none => simp only [unT_tup, nthS_zero, nthS_one, asI_int, asB_bool, ifB_false]; rfl
  have hr' : ((c :: l).take 2 == [40, 42]) = false := beq_eq_false_iff_ne.2 hr
  simp only [hr', ifB_false, if_neg hr, call_rlow, asB_bool]
  cases hlo : isLow c with
  | true =>
    have e : loopO (g41_L2 (c :: l)) ([.int .i64 0], St.mk 0 0 Tr.leaf) = some (0, [.int .i64 ((wh isBeh (c :: l) : Nat) : Int)], St.mk 0 0 Tr.leaf) := by
      have := cut_loop2 hs (St.mk 0 0 Tr.leaf) (n := 0) (l := c :: l) rfl
      rw [Nat.zero_add] at this
      exact this
    have hw := wh_take isBeh (c :: l)
    simp only [ifB_true, e, bindO_ok, unc_cons, asI_int, un0_nil, uptoS_nat (wh_le isBeh (c :: l)), List.drop_zero, letV_eq, hw, call_rword, asB_bool, if_true]
    unfold nameK
    by_cases h1 : (c :: l).takeWhile isBeh = [95]
    · have h2 : wh isBeh (c :: l) = 1 := by
        show ((c :: l).takeWhile isBeh).length = 1
        rw [h1]; rfl
      rw [h1, h2]; rfl
    · rw [beq_eq_false_iff_ne.2 h1, if_neg h1]
      cases words.contains ((c :: l).takeWhile isBeh) <;> rfl
  | false =>
  simp only [ifB_false, Bool.false_eq_true, if_false, call_rdigit, asB_bool]
  cases hdi : isDig c with
  | true =>
    have e := fun {β : Type} (st : St) (K : Kv β) => callS_bare st K rfl rfl rfl (rnumber hs (by rw [wh_cons, if_pos hdi]; omega))
    simp only [ifB_true, e, unT_tup, nthS_zero, nthS_one, asI_int, if_true]
  | false =>
  have b34 : ((c.toNat : Int) == 34) = (c == 34) := byte_beq c 34
  simp only [ifB_false, Bool.false_eq_true, if_false, b34]
  by_cases hq : c = 34
  · have hq' : (c == 34) = true := beq_iff_eq.2 hq
    have e := fun {β : Type} (st : St) (K : Kv β) => callS_bare st K rfl rfl rfl (rtext_ok (c := c) hs)
    simp only [hq', ifB_true, e, unT_tup, nthS_zero, nthS_one, asI_int, if_pos hq]
  have hq' : (c == 34) = false := beq_eq_false_iff_ne.2 hq
  have e3 : loopO (g41_L3 (c :: l)) ([.int .u8 0, .int .i64 0, .int .i64 0], St.mk 0 0 Tr.leaf) = _ := two_loop (c :: l) (St.mk 0 0 Tr.leaf) twos 0 rfl rfl
  simp only [hq', ifB_false, if_neg hq]
  rw [e3]
  cases ht : twos.contains ((c :: l).take 2) with
  | true => rfl
  | false =>
  have e4 : loopO (g41_L4 c) ([.int .u8 0, .int .i64 0, .int .i64 0], St.mk 0 0 Tr.leaf) = some (if isOne c then (1, [.int .u8 8, .int .i64 1], St.mk 0 0 Tr.leaf) else (0, [.int .u8 0, .int .i64 0], St.mk 0 0 Tr.leaf)) := one_loop c (St.mk 0 0 Tr.leaf) ones1 0 rfl rfl
  simp only [Bool.false_eq_true, if_false, bindO_ok, unc_cons, asI_int, un0_nil, sel2_zero]
  rw [e4]
  cases ho : isOne c with
  | true => rfl
  | false =>
  obtain ⟨p, e, _⟩ := ref_rune (s := c :: l) (by simp)
  have e := fun {β : Type} (st : St) (K : Kv β) => callS_bare st K rfl rfl rfl e
  simp only [Bool.false_eq_true, if_false, bindO_ok, unc_cons, asI_int, un0_nil, sel2_zero, e, unT_tup, nthS_zero, nthS_one]
  rfl
theorem rtoks_loop : ∀ (n : Nat) (s : List UInt8) (st : St) (v : AV) (es : List AV), s.length ≤ n → n ≤ 500000 → Own st 2 36 v es → es.length + n ≤ 500000 →
    ∃ v' st', loopO g28_L1 ([v, .str s], st) = some (0, [v'], st') ∧ Own st' 2 36 v' (es ++ (tokens s).map tok)
  | n, [], st, v, es, _, _, ho, _ => by
    refine ⟨v, st, loopO_inr ?_, by simpa [tokens_nil] using ho⟩
    simp only [g28_L1, unc_cons, asS_str, un0_nil, show (!(([] : List UInt8) == [])) = false from rfl, ifB_false]
  | 0, c :: l, _, _, _, h, _, _, _ => by simp at h
  | n + 1, c :: l, st, v, es, h, hn, ho, he => by
    have hc := cut_le (s := c :: l) (by simp)
    have hcut := fun {β : Type} (st : St) (K : Kv β) => callS_bare st K rfl rfl rfl (rcut (s := c :: l) (by simp) (by omega))
    obtain ⟨v1, st1, o1, k1, x1, a1⟩ := own_app (b := 24) (tok ((cut (c :: l)).1, (c :: l).take (cut (c :: l)).2)) ho (room_of (by omega) (by omega) (by omega))
    have a1 : ∀ {β : Type} (K : Kv β), appS 2 24 36 v [.agg [.int .u8 ((cut (c :: l)).1 : Int), .str ((c :: l).take (cut (c :: l)).2)]] st K = K v1 st1 x1 := fun K => a1 K
    have hd : ((c :: l).drop (cut (c :: l)).2).length ≤ n := by rw [List.length_drop]; omega
    obtain ⟨v2, st2, e2, o2⟩ := rtoks_loop n ((c :: l).drop (cut (c :: l)).2) st1 v1 _ hd (by omega) o1 (by rw [List.length_append]; simp; omega)
    refine ⟨v2, st2, ?_, ?_⟩
    · rw [loopO_inl (s' := ([v1, .str ((c :: l).drop (cut (c :: l)).2)], st1)), e2]
      simp only [g28_L1, unc_cons, asS_str, un0_nil, show (!((c :: l : List UInt8) == [])) = true from rfl, ifB_true, hcut, unT_tup, nthS_zero, nthS_one, asI_int, uptoS_nat hc.2, List.drop_zero, letV_eq, a1, List.take_length]
    · rw [tokens_cons (by simp), List.map_cons]
      rw [List.append_assoc] at o2
      exact o2
theorem call_rvalid {β : Type} (s : List UInt8) (st : St) (K : Kv β) : callS (orc vE) 40 [.str s] st K = K (.bool (validS s)) st q0 := callS_bare st K rfl rfl rfl (ref_valid s)
theorem rtokens_large {s : List UInt8} (h : 65536 < s.length) : (orc vE).bare 28 [.str s] = some (.tup [.nils, .int .i64 40]) := by
  refine bare_of rfl ((g28_eq _).trans ?_)
  have q : (s.length : Int) > 65536 := by omega
  simp only [g28, asS_str, ifB_decide, if_pos q]
theorem rtokens_form {s : List UInt8} (h : s.length ≤ 65536) (hv : validS s = false) : (orc vE).bare 28 [.str s] = some (.tup [.nils, .int .i64 4]) := by
  refine bare_of rfl ((g28_eq _).trans ?_)
  have q : ¬ (s.length : Int) > 65536 := by omega
  simp only [g28, asS_str, ifB_decide, if_neg q, call_rvalid, hv, asB_bool, Bool.not_false, ifB_true]
theorem rtokens_ok {s : List UInt8} (h : s.length ≤ 65536) (hv : validS s = true) : ∃ x, (orc vE).bare 28 [.str s] = some (.tup [x, .int .i64 0]) ∧ IsSl 2 x ((tokens s).map tok) := by
  have q : ¬ (s.length : Int) > 65536 := by omega
  obtain ⟨v', st', e, o⟩ := rtoks_loop s.length s (St.mk 0 0 Tr.leaf) .nils [] (Nat.le_refl _) (by omega) (Own.nils (Nat.le_refl _) _ _) (by simp; omega)
  rw [List.nil_append] at o
  obtain ⟨x, hx, hf⟩ := frz_own2 o (fz_int .i64 0) rfl
  refine ⟨x, bare_of rfl ((g28_eq _).trans ?_), hx⟩
  simp only [g28, asS_str, ifB_decide, if_neg q, call_rvalid, hv, asB_bool, Bool.not_true, ifB_false, e, bindO_ok, unc_cons, un0_nil, hf]
end Go.Proofs.YtgaciccgmjcbmaaDoor.Vm
/- Tokens as values: for seats that do not reach lex.One (else LexK has these). -/
set_option maxRecDepth 100000
set_option linter.unusedSimpArgs false
namespace Go.Proofs.YtgaciccgmjcbmaaDoor.Vm
open Go Go.VM Go.Proofs Go.Lex

theorem eq_tok (a b : Int) (s t : List UInt8) : eqT (Env.T vE) 20 36 (.agg [.int .u8 a, .str s]) (.agg [.int .u8 b, .str t]) = .ok (a == b && s == t) := by
  have h : eqT (Env.T vE) 20 36 (.agg [.int .u8 a, .str s]) (.agg [.int .u8 b, .str t]) = (match a == b with | true => (match s == t with | true => .ok true | false => .ok false) | false => .ok false) := rfl
  rw [h]
  cases a == b <;> cases s == t <;> rfl
theorem neq_tok (a b : Int) (s t : List UInt8) : toO (VM.binOp (Env.T vE) BinOp.neq 36 (.agg [.int .u8 a, .str s]) (.agg [.int .u8 b, .str t])) = some (.bool !(a == b && s == t)) := by
  have h : VM.binOp (Env.T vE) BinOp.neq 36 (.agg [.int .u8 a, .str s]) (.agg [.int .u8 b, .str t]) = (do pure (.bool !(← eqT (Env.T vE) 20 36 (.agg [.int .u8 a, .str s]) (.agg [.int .u8 b, .str t])))) := rfl
  rw [h, eq_tok]; rfl
theorem eql_tok (a b : Int) (s t : List UInt8) : toO (VM.binOp (Env.T vE) BinOp.eql 36 (.agg [.int .u8 a, .str s]) (.agg [.int .u8 b, .str t])) = some (.bool (a == b && s == t)) := by
  have h : VM.binOp (Env.T vE) BinOp.eql 36 (.agg [.int .u8 a, .str s]) (.agg [.int .u8 b, .str t]) = (do pure (.bool (← eqT (Env.T vE) 20 36 (.agg [.int .u8 a, .str s]) (.agg [.int .u8 b, .str t])))) := rfl
  rw [h, eq_tok]; rfl
theorem tok_cells (p : Nat × List UInt8) : (tok p).cells = [.int .u8 (p.1 : Int), .str p.2] := rfl
theorem toks_idx {x : AV} {es : List (Nat × List UInt8)} (h : IsSl 2 x (es.map tok)) {j : Nat} {p : Nat × List UInt8} (hj : es[j]? = some p) {β : Type} (st : St) (K : AV → List Nat → Option β) : idxA 2 x (j : Int) st K = K (.ip [.int .u8 (p.1 : Int), .str p.2]) [] :=
  h.idx (by rw [List.getElem?_map, hj]; rfl) st K
end Go.Proofs.YtgaciccgmjcbmaaDoor.Vm
/- How many tokens at the beginnings of two rows are the same. -/
set_option maxRecDepth 100000
set_option linter.unusedSimpArgs false
namespace Go.Proofs.YtgaciccgmjcbmaaDoor.Vm
open Go Go.VM Go.Proofs Go.Lex

theorem beq_tok (p q : Nat × List UInt8) : (((p.1 : Int) == (q.1 : Int)) && (p.2 == q.2)) = decide (p = q) := by
  by_cases h : p = q
  · subst h; simp
  · rw [decide_eq_false h, Bool.and_eq_false_iff]
    by_cases h1 : p.1 = q.1
    · refine .inr ?_
      rw [beq_eq_false_iff_ne]
      exact fun h2 => h (Prod.ext h1 h2)
    · refine .inl ?_
      rw [beq_eq_false_iff_ne]
      omega
theorem alike_loop {x y : AV} {es fs : List (Nat × List UInt8)} (hx : IsSl 2 x (es.map tok)) (hy : IsSl 2 y (fs.map tok)) (st : St) : ∀ (l m : List (Nat × List UInt8)) (j : Nat), es.drop j = l → fs.drop j = m →
    loopO (g17_L1 x y) ([.int .i64 (j : Int)], st) = some (0, [.int .i64 ((j + alike l m : Nat) : Int)], st) := by
  intro l
  induction l with
  | nil =>
    intro m j hd _
    have := List.drop_eq_nil_iff.1 hd
    refine loopO_inr ?_
    have q : ¬ (j : Int) < (if ((fs.map tok).length : Int) < ((es.map tok).length : Int) then ((fs.map tok).length : Int) else ((es.map tok).length : Int)) := by
      rw [List.length_map, List.length_map]; split <;> omega
    simp only [g17_L1, unc_cons, asI_int, un0_nil, hx.len, hy.len, letV_eq, ifB_decide, if_neg q, bindO_ok, asB_bool, ifB_false, alike, Nat.add_zero]
  | cons p l ih =>
    intro m j hd he
    obtain ⟨hg, hr, hlt⟩ := drop_cons hd
    cases m with
    | nil =>
      have := List.drop_eq_nil_iff.1 he
      refine loopO_inr ?_
      have q : ¬ (j : Int) < (if ((fs.map tok).length : Int) < ((es.map tok).length : Int) then ((fs.map tok).length : Int) else ((es.map tok).length : Int)) := by
        rw [List.length_map, List.length_map]; split <;> omega
      simp only [g17_L1, unc_cons, asI_int, un0_nil, hx.len, hy.len, letV_eq, ifB_decide, if_neg q, bindO_ok, asB_bool, ifB_false, alike, Nat.add_zero]
    | cons r m =>
      obtain ⟨hg2, hr2, hlt2⟩ := drop_cons he
      have hl := hx.1
      rw [List.length_map] at hl
      have q : (j : Int) < (if ((fs.map tok).length : Int) < ((es.map tok).length : Int) then ((fs.map tok).length : Int) else ((es.map tok).length : Int)) := by
        rw [List.length_map, List.length_map]; split <;> omega
      by_cases h : p = r
      · have hb : (((p.1 : Int) == (r.1 : Int)) && (p.2 == r.2)) = true := by rw [beq_tok, decide_eq_true h]
        rw [loopO_inl (s' := ([.int .i64 ((j + 1 : Nat) : Int)], st)), ih m (j + 1) hr hr2]
        · simp only [alike, if_pos h]
          rw [show j + 1 + alike l m = j + (alike l m + 1) by omega]
        · simp only [g17_L1, unc_cons, asI_int, un0_nil, hx.len, hy.len, letV_eq, ifB_decide, if_pos q, toks_idx hx hg, toks_idx hy hg2, loadS_ip, takeO2, bindO_ok, unA_agg, asS_str, eql_tok, hb, asB_bool, ifB_true, wrapA1 (show j + 1 ≤ 9223372036854775807 by omega)]
      · have hb : (((p.1 : Int) == (r.1 : Int)) && (p.2 == r.2)) = false := by rw [beq_tok, decide_eq_false h]
        refine loopO_inr ?_
        simp only [g17_L1, unc_cons, asI_int, un0_nil, hx.len, hy.len, letV_eq, ifB_decide, if_pos q, toks_idx hx hg, toks_idx hy hg2, loadS_ip, takeO2, bindO_ok, unA_agg, asS_str, eql_tok, hb, asB_bool, ifB_false, alike, if_neg h, Nat.add_zero]
theorem alike_ok {x y : AV} {es fs : List (Nat × List UInt8)} (hx : IsSl 2 x (es.map tok)) (hy : IsSl 2 y (fs.map tok)) : (orc vE).bare 17 [x, y] = some (.int .i64 (alike es fs : Int)) := by
  refine bare_of rfl ((g17_eq _ _).trans ?_)
  have e := alike_loop hx hy (St.mk 0 0 Tr.leaf) es fs 0 rfl rfl
  rw [Nat.zero_add] at e
  have e : loopO (g17_L1 x y) ([.int .i64 0], St.mk 0 0 Tr.leaf) = _ := e
  simp only [g17]
  rw [e]
  simp only [bindO_ok, unc_cons, asI_int, un0_nil]
end Go.Proofs.YtgaciccgmjcbmaaDoor.Vm
/- The reference's count of tokens that are the same. -/
set_option maxRecDepth 100000
set_option linter.unusedSimpArgs false
namespace Go.Proofs.YtgaciccgmjcbmaaDoor.Vm
open Go Go.VM Go.Proofs Go.Lex

theorem ralike_loop {x y : AV} {es fs : List (Nat × List UInt8)} (hx : IsSl 2 x (es.map tok)) (hy : IsSl 2 y (fs.map tok)) (st : St) : ∀ (l m : List (Nat × List UInt8)) (j : Nat), es.drop j = l → fs.drop j = m →
    loopO (g27_L1 x y) ([.int .i64 (j : Int)], st) = some (0, [.int .i64 ((j + alike l m : Nat) : Int)], st) := by
  intro l
  induction l with
  | nil =>
    intro m j hd _
    have := List.drop_eq_nil_iff.1 hd
    refine loopO_inr ?_
    have q : ¬ (j : Int) < ((es.map tok).length : Int) := by rw [List.length_map]; omega
    simp only [g27_L1, unc_cons, asI_int, un0_nil, hx.len, hy.len, letV_eq, ifB_decide, if_neg q, bindO_ok, asB_bool, ifB_false, alike, Nat.add_zero]
  | cons p l ih =>
    intro m j hd he
    obtain ⟨hg, hr, hlt⟩ := drop_cons hd
    cases m with
    | nil =>
      have := List.drop_eq_nil_iff.1 he
      refine loopO_inr ?_
      have q0 : (j : Int) < ((es.map tok).length : Int) := by rw [List.length_map]; omega
      have q : ¬ (j : Int) < ((fs.map tok).length : Int) := by rw [List.length_map]; omega
      simp only [g27_L1, unc_cons, asI_int, un0_nil, hx.len, hy.len, letV_eq, ifB_decide, if_pos q0, if_neg q, bindO_ok, asB_bool, ifB_false, alike, Nat.add_zero]
    | cons r m =>
      obtain ⟨hg2, hr2, hlt2⟩ := drop_cons he
      have hl := hx.1
      rw [List.length_map] at hl
      have q0 : (j : Int) < ((es.map tok).length : Int) := by rw [List.length_map]; omega
      have q : (j : Int) < ((fs.map tok).length : Int) := by rw [List.length_map]; omega
      by_cases h : p = r
      · have hb : (((p.1 : Int) == (r.1 : Int)) && (p.2 == r.2)) = true := by rw [beq_tok, decide_eq_true h]
        rw [loopO_inl (s' := ([.int .i64 ((j + 1 : Nat) : Int)], st)), ih m (j + 1) hr hr2]
        · simp only [alike, if_pos h]
          rw [show j + 1 + alike l m = j + (alike l m + 1) by omega]
        · simp only [g27_L1, unc_cons, asI_int, un0_nil, hx.len, hy.len, letV_eq, ifB_decide, if_pos q0, if_pos q, toks_idx hx hg, toks_idx hy hg2, loadS_ip, takeO2, bindO_ok, unA_agg, asS_str, eql_tok, hb, asB_bool, ifB_true, wrapA1 (show j + 1 ≤ 9223372036854775807 by omega)]
      · have hb : (((p.1 : Int) == (r.1 : Int)) && (p.2 == r.2)) = false := by rw [beq_tok, decide_eq_false h]
        refine loopO_inr ?_
        simp only [g27_L1, unc_cons, asI_int, un0_nil, hx.len, hy.len, letV_eq, ifB_decide, if_pos q0, if_pos q, toks_idx hx hg, toks_idx hy hg2, loadS_ip, takeO2, bindO_ok, unA_agg, asS_str, eql_tok, hb, asB_bool, ifB_false, alike, if_neg h, Nat.add_zero]
theorem ralike_ok {x y : AV} {es fs : List (Nat × List UInt8)} (hx : IsSl 2 x (es.map tok)) (hy : IsSl 2 y (fs.map tok)) : (orc vE).bare 27 [x, y] = some (.int .i64 (alike es fs : Int)) := by
  refine bare_of rfl ((g27_eq _ _).trans ?_)
  have e := ralike_loop hx hy (St.mk 0 0 Tr.leaf) es fs 0 rfl rfl
  rw [Nat.zero_add] at e
  have e : loopO (g27_L1 x y) ([.int .i64 0], St.mk 0 0 Tr.leaf) = _ := e
  simp only [g27]
  rw [e]
  simp only [bindO_ok, unc_cons, asI_int, un0_nil]
end Go.Proofs.YtgaciccgmjcbmaaDoor.Vm
/- The reference's Same; the law's texts. -/
set_option maxRecDepth 100000
set_option linter.unusedSimpArgs false
namespace Go.Proofs.YtgaciccgmjcbmaaDoor.Vm
open Go Go.VM Go.Proofs Go.Lex

theorem rsame_ok {x y : AV} {es : List (Nat × List UInt8)} (hx : IsSl 2 x (es.map tok)) (hy : IsSl 2 y (es.map tok)) : (orc vE).bare 11 [x, y] = some (.bool true) := by
  refine bare_of rfl ((g11_eq _ _).trans ?_)
  have ca := fun {β : Type} (st : St) (K : Kv β) => callS_bare (f := 27) st K rfl (by simp only [List.map_cons, List.map_nil, hx.strip, hy.strip]) (by simp [bares, VM.bare.bareAll, hx.bare, hy.bare]) (ralike_ok hx hy)
  have hl : (((es.length : Nat) : Int) == (((es.map tok).length : Nat) : Int)) = true := by rw [List.length_map]; simp
  simp only [g11, hx.len, hy.len, beq_self_eq_true, ifB_true, ca, asI_int, alike_refl, hl, bindO_ok, unc_cons, asB_bool, un0_nil]
end Go.Proofs.YtgaciccgmjcbmaaDoor.Vm
/- The text behind an edit, by the reference. -/
set_option maxRecDepth 100000
set_option linter.unusedSimpArgs false
namespace Go.Proofs.YtgaciccgmjcbmaaDoor.Vm
open Go Go.VM Go.Proofs Go.Lex

/-- The reference's tokens, or why not. -/
theorem rtokens_any (s : List UInt8) : ∃ x, (orc vE).bare 28 [.str s] = some (.tup [x, .int .i64 (okS s)]) ∧ IsSl 2 x (if okS s = 0 then (tokens s).map tok else []) := by
  by_cases h1 : 65536 < s.length
  · have e : okS s = 40 := by unfold okS; rw [if_pos h1]
    exact ⟨.nils, by rw [e]; exact rtokens_large h1, by rw [e]; exact IsSl.nils⟩
  · cases hv : validS s with
    | false =>
      have e : okS s = 4 := by unfold okS; rw [if_neg h1, hv]; rfl
      exact ⟨.nils, by rw [e]; exact rtokens_form (by omega) hv, by rw [e]; exact IsSl.nils⟩
    | true =>
      obtain ⟨x, hx, h⟩ := rtokens_ok (by omega) hv
      have e : okS s = 0 := okS_of (by omega) hv
      exact ⟨x, by rw [e]; exact hx, by rw [e]; exact h⟩
theorem tokens_any (s : List UInt8) : ∃ x, (orc vE).bare 10 [.str s] = some (.tup [x, .int .i64 (okS s)]) ∧ IsSl 2 x (if okS s = 0 then (tokens s).map tok else []) := by
  by_cases h1 : 65536 < s.length
  · have e : okS s = 40 := by unfold okS; rw [if_pos h1]
    exact ⟨.nils, by rw [e]; exact tokens_large h1, by rw [e]; exact IsSl.nils⟩
  · cases hv : validS s with
    | false =>
      have e : okS s = 4 := by unfold okS; rw [if_neg h1, hv]; rfl
      exact ⟨.nils, by rw [e]; exact tokens_form (by omega) hv, by rw [e]; exact IsSl.nils⟩
    | true =>
      obtain ⟨x, hx, h⟩ := tokens_ok (by omega) hv
      have e : okS s = 0 := okS_of (by omega) hv
      exact ⟨x, by rw [e]; exact hx, by rw [e]; exact h⟩
end Go.Proofs.YtgaciccgmjcbmaaDoor.Vm
/- The text behind an edit, by the reference: Do. -/
set_option maxRecDepth 100000
set_option linter.unusedSimpArgs false
namespace Go.Proofs.YtgaciccgmjcbmaaDoor.Vm
open Go Go.VM Go.Proofs Go.Lex

def edV (f t : Int) (x : List UInt8) : AV := .agg [.int .i64 f, .int .i64 t, .str x]
theorem rdo_ok {s x : List UInt8} (f t : Int) (hx : x.length ≤ 1000000) : (orc vE).bare 29 [.str s, edV f t x] = some (.tup [.str (doS s f t x).1, .int .i64 (doS s f t x).2]) := by
  refine bare_of rfl ((g29_eq _ _).trans ?_)
  obtain ⟨a, ha, _⟩ := rtokens_any s
  have c1 := fun {β : Type} (st : St) (K : Kv β) => callS_bare st K rfl rfl rfl ha
  by_cases h1 : okS s = 0
  · have hs := (okS_zero h1).1
    obtain ⟨s1, g1, k1, n1, fx1, e1⟩ := local_var (O := orc vE) (st := St.mk 0 0 Tr.leaf) (t := 23) (z := 2) (old := [.int .i64 0, .int .i64 0]) (cs := [.int .i64 f, .int .i64 t]) (.agg [.int .i64 f, .int .i64 t]) rfl rfl (Nat.le_refl _)
    unfold doS
    rw [if_neg (by simpa using h1)]
    by_cases h2 : f < 0 ∨ f > t ∨ t > (s.length : Int)
    · rw [if_pos h2]
      by_cases a1 : f < 0
      · simp only [g29, edV, asS_str, unA_agg, unc_cons, asI_int, un0_nil, c1, unT_tup, nthS_zero, nthS_one, ifB_bne, h1, if_true, letSt_eq, e1, loadS_mp g1, List.drop_zero, takeO_one, bindO_ok, ifB_decide, if_pos a1, asB_bool, ifB_true]
      · by_cases a2 : f > t
        · simp only [g29, edV, asS_str, unA_agg, unc_cons, asI_int, un0_nil, c1, unT_tup, nthS_zero, nthS_one, ifB_bne, h1, if_true, letSt_eq, e1, loadS_mp g1, List.drop_zero, List.drop_succ_cons, takeO_one, bindO_ok, ifB_decide, if_neg a1, if_pos a2, asB_bool, ifB_true]
        · have a3 : t > (s.length : Int) := by omega
          simp only [g29, edV, asS_str, unA_agg, unc_cons, asI_int, un0_nil, c1, unT_tup, nthS_zero, nthS_one, ifB_bne, h1, if_true, letSt_eq, e1, loadS_mp g1, List.drop_zero, List.drop_succ_cons, takeO_one, bindO_ok, ifB_decide, if_neg a1, if_neg a2, asB_bool, if_pos a3]
    · rw [if_neg h2]
      have a1 : ¬ f < 0 := by omega
      have a2 : ¬ f > t := by omega
      have a3 : ¬ t > (s.length : Int) := by omega
      obtain ⟨n, rfl⟩ := Int.eq_ofNat_of_zero_le (show 0 ≤ f by omega)
      obtain ⟨m, rfl⟩ := Int.eq_ofNat_of_zero_le (show 0 ≤ t by omega)
      obtain ⟨b, hb, _⟩ := rtokens_any (outE s n m x)
      have c2 := fun {β : Type} (st : St) (K : Kv β) => callS_bare st K rfl rfl rfl hb
      have ho : outE s (n : Int) (m : Int) x = s.take n ++ x ++ s.drop m := rfl
      rw [ho] at c2 ⊢
      have b1 : Nat.ble ((s.take n).length + x.length) 9223372036854775807 = true := ble_of (by rw [List.length_take]; omega)
      have b2 : Nat.ble ((s.take n ++ x).length + (s.drop m).length) 9223372036854775807 = true := ble_of (by rw [List.length_append, List.length_take, List.length_drop]; omega)
      simp only [g29, edV, asS_str, unA_agg, unc_cons, asI_int, un0_nil, c1, unT_tup, nthS_zero, nthS_one, ifB_bne, h1, if_true, letSt_eq, e1, loadS_mp g1, List.drop_zero, List.drop_succ_cons, takeO_one, bindO_ok, ifB_decide, if_neg a1, if_neg a2, asB_bool, if_neg a3, uptoS_nat (show n ≤ s.length by omega), uptoS_nat (show m ≤ s.length by omega), letV_eq, b1, b2, chk_true, List.take_length, c2]
      by_cases h3 : okS (s.take n ++ x ++ s.drop m) = 0
      · rw [if_pos h3, if_neg (by simpa using h3)]
      · rw [if_neg h3, if_pos h3]
  · unfold doS
    rw [if_pos h1]
    simp only [g29, edV, asS_str, unA_agg, unc_cons, asI_int, un0_nil, c1, unT_tup, nthS_zero, nthS_one, ifB_bne, if_neg h1]
end Go.Proofs.YtgaciccgmjcbmaaDoor.Vm
/- How many tokens stay, by the program. -/
set_option maxRecDepth 100000
set_option linter.unusedSimpArgs false
namespace Go.Proofs.YtgaciccgmjcbmaaDoor.Vm
open Go Go.VM Go.Proofs Go.Lex

theorem keep_loop {x : AV} {es : List (Nat × List UInt8)} (hx : IsSl 2 x (es.map tok)) (hes : es.length ≤ 1000000) (f : Nat) (st : St) : ∀ (l : List (Nat × List UInt8)) (j a : Nat), es.drop j = l → a ≤ f → a + (bytesL l).length ≤ 1000000 →
    loopO (g16_L1 (f : Int) x) ([.int .i64 (a : Int), .int .i64 (j : Int)], st) = some (0, [.int .i64 ((a + (bytesL (l.take (keeps (f - a) l))).length : Nat) : Int), .int .i64 ((j + keeps (f - a) l : Nat) : Int)], st)
  | [], j, a, hd, ha, hb => by
    have := List.drop_eq_nil_iff.1 hd
    have q : ¬ (j : Int) < ((es.map tok).length : Int) := by rw [List.length_map]; omega
    refine loopO_inr ?_
    simp only [g16_L1, unc_cons, asI_int, un0_nil, hx.len, ifB_decide, if_neg q, bindO_ok, asB_bool, ifB_false]
    rfl
  | p :: l, j, a, hd, ha, hb => by
    obtain ⟨hg, hr, hlt⟩ := drop_cons hd
    have q : (j : Int) < ((es.map tok).length : Int) := by rw [List.length_map]; omega
    rw [bytesL_cons, List.length_append] at hb
    have f1 : ∀ {β : Type} (K : AV → Option β), fldA 1 (.ip [.int .u8 (p.1 : Int), .str p.2]) K = K (.ip [.str p.2]) := fun K => rfl
    have w1 := wrapA (show a + p.2.length ≤ 9223372036854775807 by omega)
    have w2 := wrapA2 (show a + p.2.length + 2 ≤ 9223372036854775807 by omega)
    simp only [keeps]
    by_cases hk : p.2.length + 2 < f - a
    · have hk' : ((a + p.2.length + 2 : Nat) : Int) < (f : Int) := by omega
      have e : f - a - p.2.length = f - (a + p.2.length) := by omega
      rw [if_pos hk, e, loopO_inl (s' := ([.int .i64 ((a + p.2.length : Nat) : Int), .int .i64 ((j + 1 : Nat) : Int)], st)), keep_loop hx hes f st l (j + 1) (a + p.2.length) hr (by omega) (by omega)]
      · rw [List.take_succ_cons, bytesL_cons, List.length_append, ← Nat.add_assoc, show j + 1 + keeps (f - (a + p.2.length)) l = j + (keeps (f - (a + p.2.length)) l + 1) by omega]
      · simp only [g16_L1, unc_cons, asI_int, un0_nil, hx.len, ifB_decide, if_pos q, toks_idx hx hg, f1, loadS_ip, takeO_one, bindO_ok, asS_str, letV_eq, w1, w2, if_pos hk', asB_bool, wrapA1 (show j + 1 ≤ 9223372036854775807 by omega)]
    · have hk' : ¬ ((a + p.2.length + 2 : Nat) : Int) < (f : Int) := by omega
      rw [if_neg hk]
      refine loopO_inr ?_
      simp only [g16_L1, unc_cons, asI_int, un0_nil, hx.len, ifB_decide, if_pos q, toks_idx hx hg, f1, loadS_ip, takeO_one, bindO_ok, asS_str, letV_eq, w1, w2, if_neg hk', asB_bool, ifB_false]
      rfl
end Go.Proofs.YtgaciccgmjcbmaaDoor.Vm
/- A row from its end on, by the program: a copy that is turned in place. -/
set_option maxRecDepth 100000
set_option linter.unusedSimpArgs false
namespace Go.Proofs.YtgaciccgmjcbmaaDoor.Vm
open Go Go.VM Go.Proofs Go.Lex

theorem tok_els (l : List (Nat × List UInt8)) : Els 2 true (l.map tok) := by
  have key : ∀ v ∈ l.map tok, ∃ p : Nat × List UInt8, v = tok p := fun v hv => by
    obtain ⟨p, _, rfl⟩ := List.mem_map.1 hv
    exact ⟨p, rfl⟩
  refine ⟨fun v hv => ?_, fun v hv => ?_, fun v hv c hc => ?_, fun v hv => ?_, fun v hv _ => ?_, fun v hv h => by cases h⟩
  · obtain ⟨p, rfl⟩ := key v hv; rfl
  · obtain ⟨p, rfl⟩ := key v hv; rfl
  · obtain ⟨p, rfl⟩ := key v hv
    rw [tok_cells] at hc
    simp only [List.mem_cons, List.mem_nil_iff, or_false] at hc
    rcases hc with rfl | rfl
    · exact fz_int _ _
    · exact fz_str _
  · obtain ⟨p, rfl⟩ := key v hv; rfl
  · obtain ⟨p, rfl⟩ := key v hv; exact ⟨_, rfl⟩
theorem tok_fit (l : List (Nat × List UInt8)) {β : Type} (K : List AV → Option β) : fitTs true (l.map tok) K = K (l.map tok) :=
  fitTs_of (fun v hv K => by
    obtain ⟨p, _, rfl⟩ := List.mem_map.1 hv
    rfl) K
theorem tok_sizes (l : List (Nat × List UInt8)) : sizesOk 2 (l.map tok) = true := sizesOk_of (tok_els l).size
/-- Turned in place. -/
theorem rev_loop {id : Nat} {T : TypeId} {n : Nat} (hn : n ≤ 1000000) : ∀ (k : Nat) (L mid R : List (Nat × List UInt8)) (st : St), mid.length ≤ k → L.length = R.length → (L ++ mid ++ R).length = n → st.get id = .ok (.cells T (flat ((L ++ mid ++ R).map tok))) → st.ro ≤ id →
    ∃ st', loopO (w31_L1 (.ms id 0 2 n 0)) ([.int .i64 (L.length : Int), .int .i64 ((L.length : Int) + (mid.length : Int) - 1)], st) = some (0, [], st') ∧ st'.get id = .ok (.cells T (flat ((L ++ mid.reverse ++ R).map tok)))
  | k, L, [], R, st, _, _, hlen, hg, hro => by
    have q : ¬ (L.length : Int) < (L.length : Int) + ((([] : List (Nat × List UInt8)).length : Nat) : Int) - 1 := by simp; omega
    refine ⟨st, loopO_inr ?_, by simpa using hg⟩
    simp only [w31_L1, unc_cons, asI_int, un0_nil, ifB_decide, if_neg q]
  | k, L, [u], R, st, _, _, hlen, hg, hro => by
    have q : ¬ (L.length : Int) < (L.length : Int) + ((([u] : List (Nat × List UInt8)).length : Nat) : Int) - 1 := by simp
    refine ⟨st, loopO_inr ?_, by simpa using hg⟩
    simp only [w31_L1, unc_cons, asI_int, un0_nil, ifB_decide, if_neg q]
  | 0, L, u :: v :: l, R, _, h, _, _, _, _ => by simp at h
  | k + 1, L, u :: v :: l, R, st, hk, hLR, hlen, hg, hro => by
    obtain ⟨m, w, hm⟩ : ∃ m w, v :: l = m ++ [w] := ⟨(v :: l).dropLast, (v :: l).getLast (by simp), (List.dropLast_concat_getLast (by simp)).symm⟩
    rw [hm] at hk hlen hg ⊢
    simp only [List.length_append, List.length_cons, List.length_nil] at hk hlen
    have q : (L.length : Int) < (L.length : Int) + (((u :: (m ++ [w])).length : Nat) : Int) - 1 := by simp; omega
    have ej : (L.length : Int) + (((u :: (m ++ [w])).length : Nat) : Int) - 1 = ((L.length + m.length + 1 : Nat) : Int) := by simp; omega
    have e0 : L ++ u :: (m ++ [w]) ++ R = L ++ u :: (m ++ w :: R) := by simp
    have gi : (L ++ u :: (m ++ w :: R))[L.length]? = some u := by simp
    have gj : (L ++ u :: (m ++ w :: R))[L.length + m.length + 1]? = some w := by
      rw [List.getElem?_append_right (by omega), show L.length + m.length + 1 - L.length = m.length + 1 by omega, List.getElem?_cons_succ, List.getElem?_append_right (by omega), Nat.sub_self]; rfl
    have s1 : (L ++ u :: (m ++ w :: R)).set L.length w = L ++ w :: (m ++ w :: R) := by
      rw [List.set_append_right _ _ (by omega), Nat.sub_self]; rfl
    have s2 : (L ++ w :: (m ++ w :: R)).set (L.length + m.length + 1) u = (L ++ [w]) ++ m ++ (u :: R) := by
      rw [List.set_append_right _ _ (by omega), show L.length + m.length + 1 - L.length = m.length + 1 by omega, List.set_cons_succ, List.set_append_right _ _ (by omega), Nat.sub_self]
      simp
    rw [e0] at hg
    have hn1 : (L ++ u :: (m ++ w :: R)).length = n := by simp; omega
    have a1 := fun {β : Type} (K : AV → List Nat → Option β) => load_el (tok_els _) hg (k := L.length + m.length + 1) (v := tok w) (by rw [List.getElem?_map, gj]; rfl) K
    have a2 := fun {β : Type} (K : AV → List Nat → Option β) => load_el (tok_els _) hg (k := L.length) (v := tok u) (by rw [List.getElem?_map, gi]; rfl) K
    obtain ⟨f1, hf1, b1⟩ := store_el (O := orc vE) (tok_els _) hg hro (k := L.length) (w := tok w) (by rw [List.length_map]; omega) rfl
    have hg2 : (st.put id (.cells T (flat (((L ++ u :: (m ++ w :: R)).map tok).set L.length (tok w))))).get id = .ok (.cells T (flat ((L ++ w :: (m ++ w :: R)).map tok))) := by
      rw [St.get_put_same (St.get_ok.1 hg).1, ← List.map_set, s1]
    have hro1 : (st.put id (.cells T (flat (((L ++ u :: (m ++ w :: R)).map tok).set L.length (tok w))))).ro ≤ id := hro
    generalize st.put id (.cells T (flat (((L ++ u :: (m ++ w :: R)).map tok).set L.length (tok w)))) = st1 at b1 hg2 hro1
    obtain ⟨f2, hf2, b2⟩ := store_el (O := orc vE) (tok_els _) hg2 hro1 (k := L.length + m.length + 1) (w := tok u) (by rw [List.length_map]; simp; omega) rfl
    have hg3 : (st1.put id (.cells T (flat (((L ++ w :: (m ++ w :: R)).map tok).set (L.length + m.length + 1) (tok u))))).get id = .ok (.cells T (flat (((L ++ [w]) ++ m ++ (u :: R)).map tok))) := by
      rw [St.get_put_same (St.get_ok.1 hg2).1, ← List.map_set, s2]
    have hro2 : (st1.put id (.cells T (flat (((L ++ w :: (m ++ w :: R)).map tok).set (L.length + m.length + 1) (tok u))))).ro ≤ id := hro1
    generalize st1.put id (.cells T (flat (((L ++ w :: (m ++ w :: R)).map tok).set (L.length + m.length + 1) (tok u)))) = st2 at b2 hg3 hro2
    obtain ⟨st', e1, e2⟩ := rev_loop hn k (L ++ [w]) m (u :: R) st2 (by omega) (by simp; omega) (by simp; omega) hg3 hro2
    refine ⟨st', ?_, by rw [e2]; simp⟩
    have el : ((L ++ [w]).length : Int) = ((L.length + 1 : Nat) : Int) := by simp
    have em : ((L ++ [w]).length : Int) + (m.length : Int) - 1 = ((L.length + m.length : Nat) : Int) := by simp; omega
    rw [em, el] at e1
    rw [loopO_inl (s' := ([.int .i64 ((L.length + 1 : Nat) : Int), .int .i64 ((L.length + m.length : Nat) : Int)], st2)), e1]
    rw [ej] at q ⊢
    have i1 := fun {β : Type} (st : St) (K : AV → List Nat → Option β) => idx_ms (z := 2) (id := id) (c := 0) (show L.length < n by omega) st K
    have i2 := fun {β : Type} (st : St) (K : AV → List Nat → Option β) => idx_ms (z := 2) (id := id) (c := 0) (show L.length + m.length + 1 < n by omega) st K
    have w1 := wrapA1 (show L.length + 1 ≤ 9223372036854775807 by omega)
    have w2 : IntKind.wrap .i64 (((L.length + m.length + 1 : Nat) : Int) - 1) = ((L.length + m.length : Nat) : Int) := wrapS (m := 1) (n := L.length + m.length + 1) (by omega) (by omega)
    unfold tok at a1 a2 b1 b2
    subst hf1 hf2
    simp only [cells_agg] at b1 b2
    simp only [w31_L1, unc_cons, asI_int, un0_nil, ifB_decide, if_pos q, i1, i2, a1, a2, unA_agg, asS_str, cells_agg, b1, b2, letV_eq, w1, w2, apart_wrote1, Bool.and_self, chk_true]
/-- What Clone makes of elements. -/
theorem clone_ok {x : AV} {ps : List (Nat × List UInt8)} (hx : IsSl 2 x (ps.map tok)) (hl : ps.length ≤ 1000000) (st : St) :
    ∃ v st', (orc vE).wide 30 [x] st = some (v, st') ∧ st'.ro = st.ro ∧
      ((ps = [] ∧ IsSl 2 v [] ∧ st' = st) ∨ (ps ≠ [] ∧ v = .ms st.h 0 2 ps.length 0 ∧ ∃ T, st'.get st.h = .ok (.cells T (flat (ps.map tok))))) := by
  by_cases hne : ps = []
  · subst hne
    have hx2 := hx.2
    rcases hx2 with ⟨rfl | rfl, _⟩ | rfl | rfl
    · exact ⟨.nils, st, wide_of ((w30_eq _ _).trans rfl), rfl, .inl ⟨rfl, IsSl.nils, rfl⟩⟩
    · exact ⟨.sl 2 [] .shut, st, wide_of ((w30_eq _ _).trans rfl), rfl, .inl ⟨rfl, IsSl.shut (by simp), rfl⟩⟩
    · exact ⟨.sl 2 [] .shut, st, wide_of ((w30_eq _ _).trans rfl), rfl, .inl ⟨rfl, IsSl.shut (by simp), rfl⟩⟩
    · exact ⟨.sl 2 [] .shut, st, wide_of ((w30_eq _ _).trans rfl), rfl, .inl ⟨rfl, IsSl.shut (by simp), rfl⟩⟩
  · have hne' : ps.map tok ≠ [] := by simpa using hne
    refine ⟨.ms st.h 0 2 ps.length 0, st.add (.cells (1000000 + 36) (flat (ps.map tok))), wide_of ((w30_eq _ _).trans ?_), ?_, .inr ⟨hne, rfl, 1000000 + 36, St.get_add_new⟩⟩
    · have hm := msApp_of (i := TI.mk (U.struct [(0, 5), (1, 9)]) 2 24 [AV.int .u8 0, AV.str []] true true) (e := 36) (z := 2) (tok_els ps) hne' (by
        have h1 : (ps.map tok).length ≤ 1000000 := by rw [List.length_map]; exact hl
        simp only [roomOk, ble_of (show (ps.map tok).length * 24 ≤ 70368744177664 by omega), ble_of (show (ps.map tok).length ≤ 70368744177664 by omega)]; rfl)
      simp only [w30, nilS_sl hx hne', ifB_false, hx.elems, hm, planS_new, oneOf_one, List.length_map]
    · rfl
theorem rev_empty {x : AV} (hx : IsSl 2 x []) : (orc vE).bare 31 [x] = some (.tup []) := by
  rcases hx.2 with ⟨rfl | rfl, _⟩ | rfl | rfl
  all_goals
    refine bare_of rfl ((g31_eq _).trans ?_)
    have q : ¬ (0 : Int) < -1 := by omega
    have w : IntKind.wrap .i64 (((0 : Nat) : Int) - 1) = -1 := rfl
    have e : ∀ (x : AV) (st : St), loopO (g31_L1 x) ([.int .i64 0, .int .i64 (-1)], st) = some (0, [], st) := fun x st => loopO_inr (by simp only [g31_L1, unc_cons, asI_int, un0_nil, ifB_decide, if_neg q])
    simp only [g31, lenS_nils, lenS_sl, lenS_es, List.length_nil, letV_eq, w, e, bindO_ok, un0_nil]
theorem turned_ok {x : AV} {ps : List (Nat × List UInt8)} (hx : IsSl 2 x (ps.map tok)) (hl : ps.length ≤ 1000000) : ∃ y, (orc vE).bare 18 [x] = some y ∧ IsSl 2 y (ps.reverse.map tok) := by
  obtain ⟨v, st', hc, hro, h⟩ := clone_ok hx hl (St.mk 0 0 Tr.leaf)
  have cc := fun {β : Type} (K : Kv β) => callS_wide (E := vE) K rfl (by
    simp only [List.map_cons, List.map_nil, hx.strip]
    show (_ && !true) = false
    simp) hc
  rcases h with ⟨rfl, hv, rfl⟩ | ⟨hne, rfl, T, hg⟩
  · have cr := fun {β : Type} (st : St) (K : Kv β) => callS_bare (f := 31) st K rfl (by simp only [List.map_cons, List.map_nil, hv.strip]) (by simp [bares, VM.bare.bareAll, hv.bare]) (rev_empty hv)
    refine ⟨v, bare_of rfl ((g18_eq _).trans ?_), hv⟩
    simp only [g18, cc, cr, oneOf_one, frz_of (fz_sl hv) (by omega) hv.bare]
  · obtain ⟨st2, e1, e2⟩ := rev_loop (id := 0) (T := T) (n := ps.length) hl ps.length [] ps [] st' (Nat.le_refl _) rfl (by simp) (by simpa using hg) (by rw [hro]; exact Nat.le_refl _)
    have hn := List.length_pos_iff.2 hne
    have w := wrapS (show 1 ≤ ps.length by omega) (show ps.length ≤ 9223372036854775807 by omega)
    have e0 : ((([] : List (Nat × List UInt8)).length : Nat) : Int) + (ps.length : Int) - 1 = ((ps.length - 1 : Nat) : Int) := by simp; omega
    rw [e0] at e1
    have e1 : loopO (w31_L1 (.ms 0 0 2 ps.length 0)) ([.int .i64 0, .int .i64 ((ps.length - 1 : Nat) : Int)], st') = some (0, [], st2) := e1
    have hr : (orc vE).wide 31 [.ms 0 0 2 ps.length 0] st' = some (.tup [], st2) := wide_of ((w31_eq _ _).trans (by
      have hlen : ∀ {β : Type} (K : Nat → Option β), lenS (.ms 0 0 2 ps.length 0) K = K ps.length := fun K => rfl
      have w : IntKind.wrap .i64 ((ps.length : Int) - 1) = ((ps.length - 1 : Nat) : Int) := w
      simp only [w31, hlen, letV_eq, w, e1, bindO_ok, un0_nil]))
    have cr := fun {β : Type} (K : Kv β) => callS_wide (E := vE) K rfl (by rfl) hr
    simp only [List.nil_append, List.append_nil] at e2
    have hrev : ps.reverse.map tok ≠ [] := by simpa using hne
    have hf := freeze_ms (tok_els ps.reverse) e2 hrev 98
    rw [List.length_map, List.length_reverse] at hf
    refine ⟨.sl 2 (ps.reverse.map tok) .wide, bare_of rfl ((g18_eq _).trans ?_), IsSl.wide (by simp; omega)⟩
    have hb : VM.bare (.sl 2 (ps.reverse.map tok) .wide) = true := rfl
    have hz : ∀ (K : AV → Option AV), frzS st2 0 (.ms 0 0 2 ps.length 0) K = K (.sl 2 (ps.reverse.map tok) .wide) := fun K => by simp only [frzS, hf, hb, chk_true]
    have cc : ∀ {β : Type} (K : Kv β), callS (orc vE) 30 [x] (St.mk 0 0 Tr.leaf) K = K (.ms 0 0 2 ps.length 0) st' ⟨[], .all (St.mk 0 0 Tr.leaf) st'⟩ := fun K => cc K
    simp only [g18, cc, cr, oneOf_one, hz]
end Go.Proofs.YtgaciccgmjcbmaaDoor.Vm
/- Tokens again, by the program. -/
set_option maxRecDepth 100000
set_option linter.unusedSimpArgs false
namespace Go.Proofs.YtgaciccgmjcbmaaDoor.Vm
open Go Go.VM Go.Proofs Go.Lex

theorem okS_drop {s : List UInt8} {n : Nat} (hl : s.length ≤ 65536) (hv : validS (s.drop n) = validS s) : okS (s.drop n) = okS s := by
  unfold okS
  rw [if_neg (show ¬ 65536 < (s.drop n).length by rw [List.length_drop]; omega), if_neg (show ¬ 65536 < s.length by omega), hv]
theorem tokens_few : ∀ (n : Nat) (s : List UInt8), s.length ≤ n → (tokens s).length ≤ s.length ∧ (bytesL (tokens s)).length = s.length
  | 0, s, h => by
    rw [List.eq_nil_of_length_eq_zero (Nat.le_zero.1 h)]
    exact ⟨Nat.le_refl _, rfl⟩
  | n + 1, s, h => by
    by_cases hne : s = []
    · subst hne; exact ⟨Nat.le_refl _, rfl⟩
    have hc := cut_le hne
    obtain ⟨h1, h2⟩ := tokens_few n (s.drop (cut s).2) (by rw [List.length_drop]; omega)
    rw [List.length_drop] at h1 h2
    rw [tokens_cons hne, bytesL_cons, List.length_cons, List.length_append, List.length_take]
    omega
/-- What is cut again, and what stays. -/
theorem again_ok {s x : List UInt8} (f t : Int) (hx : x.length ≤ 1000000) : ∃ a b, (orc vE).bare 16 [.str s, edV f t x] = some (.tup [.str (doS s f t x).1, a, b, .int .i64 (doS s f t x).2]) ∧
    IsSl 2 a (if (doS s f t x).2 = 0 then (tokens s).map tok else []) ∧ IsSl 2 b (if (doS s f t x).2 = 0 then (tokens (doS s f t x).1).map tok else []) := by
  obtain ⟨a, ha, hsa⟩ := tokens_any s
  have c1 := fun {β : Type} (st : St) (K : Kv β) => callS_bare st K rfl rfl rfl ha
  by_cases h1 : okS s = 0
  · obtain ⟨hs, hv⟩ := okS_zero h1
    rw [if_pos h1] at hsa
    unfold doS
    rw [if_neg (by simpa using h1)]
    by_cases h2 : f < 0 ∨ f > t ∨ t > (s.length : Int)
    · rw [if_pos h2]
      refine ⟨.nils, .nils, bare_of rfl ((g16_eq _ _).trans ?_), by simpa using IsSl.nils, by simpa using IsSl.nils⟩
      by_cases a1 : f < 0
      · simp only [g16, edV, asS_str, unA_agg, unc_cons, asI_int, un0_nil, c1, unT_tup, nthS_zero, nthS_one, ifB_bne, h1, if_true, bindO_ok, ifB_decide, if_pos a1, asB_bool, ifB_true]
      · by_cases a2 : f > t
        · simp only [g16, edV, asS_str, unA_agg, unc_cons, asI_int, un0_nil, c1, unT_tup, nthS_zero, nthS_one, ifB_bne, h1, if_true, bindO_ok, ifB_decide, if_neg a1, if_pos a2, asB_bool, ifB_true]
        · have a3 : t > (s.length : Int) := by omega
          simp only [g16, edV, asS_str, unA_agg, unc_cons, asI_int, un0_nil, c1, unT_tup, nthS_zero, nthS_one, ifB_bne, h1, if_true, bindO_ok, ifB_decide, if_neg a1, if_neg a2, if_pos a3, asB_bool]
    · rw [if_neg h2]
      have a1 : ¬ f < 0 := by omega
      have a2 : ¬ f > t := by omega
      have a3 : ¬ t > (s.length : Int) := by omega
      obtain ⟨n, rfl⟩ := Int.eq_ofNat_of_zero_le (show 0 ≤ f by omega)
      obtain ⟨m, rfl⟩ := Int.eq_ofNat_of_zero_le (show 0 ≤ t by omega)
      have ho : outE s (n : Int) (m : Int) x = s.take n ++ x ++ s.drop m := rfl
      have b1 : Nat.ble ((s.take n).length + x.length) 9223372036854775807 = true := ble_of (by rw [List.length_take]; omega)
      have b2 : Nat.ble ((s.take n ++ x).length + (s.drop m).length) 9223372036854775807 = true := ble_of (by rw [List.length_append, List.length_take, List.length_drop]; omega)
      obtain ⟨f1, f2⟩ := tokens_few s.length s (Nat.le_refl _)
      have hk := fun (st : St) => keep_loop hsa (by omega) n st (tokens s) 0 0 rfl (Nat.zero_le _) (by omega)
      simp only [Nat.zero_add, Nat.sub_zero] at hk
      have hk : ∀ st, loopO (g16_L1 (n : Int) a) ([.int .i64 0, .int .i64 0], st) = _ := hk
      have hpl : (s.take n).length = n := by rw [List.length_take]; omega
      obtain ⟨k1, k2, k3⟩ := keep_tokens s.length (s.take n) (s.drop n) (x ++ s.drop m) (by rw [List.take_append_drop]; exact Nat.le_refl _) (by rw [List.take_append_drop]; exact hv)
      rw [List.take_append_drop, hpl] at k1 k2 k3
      rw [← List.append_assoc, ← ho] at k2 k3
      have hkl := keeps_le (tokens s) n
      generalize hK : keeps n (tokens s) = K at hk k1 k2 k3 hkl
      generalize hA : (bytesL ((tokens s).take K)).length = A at hk k1 k2 k3
      by_cases h3 : 65536 < (outE s n m x).length
      · have e : okS (outE s n m x) = 40 := by unfold okS; rw [if_pos h3]
        rw [if_pos (by rw [e]; decide), e]
        have q : ((outE s n m x).length : Int) > 65536 := by omega
        rw [ho] at q
        refine ⟨.nils, .nils, bare_of rfl ((g16_eq _ _).trans ?_), by simpa using IsSl.nils, by simpa using IsSl.nils⟩
        simp only [g16, edV, asS_str, unA_agg, unc_cons, asI_int, un0_nil, c1, unT_tup, nthS_zero, nthS_one, ifB_bne, h1, if_true, bindO_ok, ifB_decide, if_neg a1, if_neg a2, if_neg a3, asB_bool, ifB_false, uptoS_nat (show n ≤ s.length by omega), uptoS_nat (show m ≤ s.length by omega), letV_eq, List.drop_zero, b1, b2, chk_true, List.take_length, hk, if_pos q]
      · have hol : (outE s n m x).length ≤ 65536 := by omega
        have q : ¬ ((outE s n m x).length : Int) > 65536 := by omega
        rw [ho] at q
        have hAl : A ≤ (s.take n ++ x ++ s.drop m).length := by
          rw [List.length_append, List.length_append, hpl]; omega
        obtain ⟨b, hb, hsb⟩ := tokens_any ((outE s n m x).drop A)
        rw [okS_drop hol k3] at hb hsb
        rw [ho] at hb
        have c2 := fun {β : Type} (st : St) (K : Kv β) => callS_bare st K rfl rfl rfl hb
        by_cases h4 : okS (outE s n m x) = 0
        · rw [if_neg (by simpa using h4)]
          rw [if_pos h4] at hsb
          rw [show okS (s.take n ++ x ++ s.drop m) = 0 from h4] at c2
          obtain ⟨y, hy, hsl⟩ := hsa.slice3 (m := K) (by rw [List.length_map]; exact hkl)
          have hown := Own.of3 (st := St.mk 0 0 Tr.leaf) (Nat.le_refl _) 36 hsa.1 hy
          obtain ⟨g1, g2⟩ := tokens_few _ ((outE s n m x).drop A) (Nat.le_refl _)
          rw [List.length_drop] at g1
          obtain ⟨z, st', o', _, fx, ap⟩ := own_apps (b := 24) ((tokens ((outE s n m x).drop A)).map tok) hown (fun _ => room_of (by rw [List.length_map, List.length_take, List.length_map]; omega) (by omega) (by omega))
          rw [← List.map_take, ← List.map_append, ← k2] at o'
          rw [ho] at ap
          obtain ⟨b', hb', e1⟩ := own_freeze o'
          have hfz : ∀ (K : AV → Option AV), frzS st' 0 (.tup [.str (s.take n ++ x ++ s.drop m), a, z, .int .i64 0]) K = K (.tup [.str (s.take n ++ x ++ s.drop m), a, b', .int .i64 0]) := fun K =>
            frz_tup (allE_cons rfl (allE_cons (fz_sl hsa st' 0 99 (by omega)) (allE_cons (e1 98) (allE_cons rfl allE_nil)))) (by simp only [bares_cons, hsa.bare, hb'.bare]; rfl) K
          refine ⟨a, b', bare_of rfl ((g16_eq _ _).trans ?_), by simpa using hsa, by simpa using hb'⟩
          simp only [g16, edV, asS_str, unA_agg, unc_cons, asI_int, un0_nil, c1, unT_tup, nthS_zero, nthS_one, ifB_bne, h1, if_true, bindO_ok, ifB_decide, if_neg a1, if_neg a2, if_neg a3, asB_bool, ifB_false, uptoS_nat (show n ≤ s.length by omega), uptoS_nat (show m ≤ s.length by omega), letV_eq, List.drop_zero, b1, b2, chk_true, List.take_length, hk, if_neg q, uptoS_nat hAl, c2, hsl, hsb.elems, tok_fit, tok_sizes, ap, hfz, ho]
        · rw [if_pos h4]
          refine ⟨.nils, .nils, bare_of rfl ((g16_eq _ _).trans ?_), by simpa [h4] using IsSl.nils, by simpa [h4] using IsSl.nils⟩
          simp only [g16, edV, asS_str, unA_agg, unc_cons, asI_int, un0_nil, c1, unT_tup, nthS_zero, nthS_one, ifB_bne, h1, if_true, bindO_ok, ifB_decide, if_neg a1, if_neg a2, if_neg a3, asB_bool, ifB_false, uptoS_nat (show n ≤ s.length by omega), uptoS_nat (show m ≤ s.length by omega), letV_eq, List.drop_zero, b1, b2, chk_true, List.take_length, hk, if_neg q, uptoS_nat hAl, c2, if_neg (show ¬ okS (s.take n ++ x ++ s.drop m) = 0 from h4), ho]
  · unfold doS
    rw [if_pos h1]
    refine ⟨.nils, .nils, bare_of rfl ((g16_eq _ _).trans ?_), by simpa [h1] using IsSl.nils, by simpa [h1] using IsSl.nils⟩
    simp only [g16, edV, asS_str, unA_agg, unc_cons, asI_int, un0_nil, c1, unT_tup, nthS_zero, nthS_one, ifB_bne, if_neg h1]
end Go.Proofs.YtgaciccgmjcbmaaDoor.Vm
/- Relex, Do, Row: what they answer. -/
set_option maxRecDepth 100000
set_option linter.unusedSimpArgs false
namespace Go.Proofs.YtgaciccgmjcbmaaDoor.Vm
open Go Go.VM Go.Proofs Go.Lex

/-- How many tokens are the same at both ends. -/
def headN (A B : List (Nat × List UInt8)) : Nat := alike A B
def tailN (A B : List (Nat × List UInt8)) : Nat := alike (A.drop (alike A B)).reverse (B.drop (alike A B)).reverse
theorem do_ok {s x : List UInt8} (f t : Int) (hx : x.length ≤ 1000000) : (orc vE).bare 12 [.str s, edV f t x] = some (.tup [.str (doS s f t x).1, .int .i64 (doS s f t x).2]) := by
  refine bare_of rfl ((g12_eq _ _).trans ?_)
  obtain ⟨a, b, h, _, _⟩ := again_ok (s := s) f t hx
  have c1 := fun {β : Type} (st : St) (K : Kv β) => callS_bare st K rfl rfl rfl h
  unfold edV at c1 ⊢
  simp only [g12, asS_str, unA_agg, unc_cons, asI_int, un0_nil, c1, unT_tup, nthS_zero, nthS_one, nthS_two, nthS_three]
theorem doS_fail {s x : List UInt8} {f t : Int} (h : (doS s f t x).2 ≠ 0) : (doS s f t x).1 = [] := by
  unfold doS at h ⊢
  split
  · rfl
  · rename_i h1
    rw [if_neg h1] at h
    split
    · rfl
    · rename_i h2
      rw [if_neg h2] at h
      split
      · rfl
      · rename_i h3
        rw [if_neg h3] at h
        exact absurd rfl h
theorem doS_len {s x : List UInt8} {f t : Int} : (doS s f t x).1.length ≤ 65536 := by
  by_cases h : (doS s f t x).2 = 0
  · obtain ⟨_, _, _, _, h5, h6⟩ := doS_ok h
    rw [h6]
    exact (okS_zero h5).1
  · rw [doS_fail h]; simp
theorem relex_fail {s x : List UInt8} (f t : Int) (hx : x.length ≤ 1000000) (h : (doS s f t x).2 ≠ 0) : (orc vE).bare 9 [.str s, edV f t x] = some (.tup [.nils, .agg [.int .i64 0, .int .i64 0], .int .i64 (doS s f t x).2]) := by
  refine bare_of rfl ((g9_eq _ _).trans ?_)
  obtain ⟨a, b, ha, _, _⟩ := again_ok (s := s) f t hx
  have c1 := fun {β : Type} (st : St) (K : Kv β) => callS_bare st K rfl rfl rfl ha
  unfold edV at c1 ⊢
  obtain ⟨st1, g1, _, _, fx, e1⟩ := var_put (O := orc vE) (st := St.mk 1 0 (Tr.node (some (VM.Obj.cells 29 [AV.int .i64 0, AV.int .i64 0])) Tr.leaf Tr.leaf)) (id := 0) (t := 29) (z := 2) (old := [.int .i64 0, .int .i64 0]) (cs := [.int .i64 0, .int .i64 0]) (.agg [.int .i64 0, .int .i64 0]) rfl rfl rfl (Nat.le_refl _)
  simp only [g9, asS_str, unA_agg, unc_cons, asI_int, un0_nil, c1, unT_tup, nthS_zero, nthS_one, nthS_two, nthS_three, ifB_bne, if_neg h, e1, loadS_mp g1, List.drop_zero, takeO2, bindO_ok]
theorem relex_ok {s x : List UInt8} (f t : Int) (hx : x.length ≤ 1000000) (h : (doS s f t x).2 = 0) : ∃ b, (orc vE).bare 9 [.str s, edV f t x] =
      some (.tup [b, .agg [.int .i64 (headN (tokens s) (tokens (doS s f t x).1) : Int), .int .i64 (tailN (tokens s) (tokens (doS s f t x).1) : Int)], .int .i64 0]) ∧ IsSl 2 b ((tokens (doS s f t x).1).map tok) := by
  obtain ⟨a, b, ha, hsa, hsb⟩ := again_ok (s := s) f t hx
  rw [if_pos h] at hsa hsb
  have hs := (okS_zero (doS_ok h).1).1
  have c1 := fun {β : Type} (st : St) (K : Kv β) => callS_bare st K rfl rfl rfl ha
  have hl1 := (tokens_few _ s (Nat.le_refl _)).1
  have hl2 := (tokens_few _ (doS s f t x).1 (Nat.le_refl _)).1
  have hl3 := doS_len (s := s) (x := x) (f := f) (t := t)
  have b2 : ∀ {u v : AV}, VM.bare u = true → VM.bare v = true → bares [u, v] = true := fun h1 h2 => by simp only [bares_cons, h1, h2]; rfl
  have b1 : ∀ {u : AV}, VM.bare u = true → bares [u] = true := fun h1 => by simp only [bares_cons, h1]; rfl
  have c2 := fun {β : Type} (st : St) (K : Kv β) => callS_bare (f := 17) st K rfl (by simp only [List.map_cons, List.map_nil, hsa.strip, hsb.strip]) (b2 hsa.bare hsb.bare) (alike_ok hsa hsb)
  obtain ⟨n1, n2⟩ := alike_le (tokens s) (tokens (doS s f t x).1)
  obtain ⟨p, hp, ep⟩ := hsa.cut (lo := some ((alike (tokens s) (tokens (doS s f t x).1) : Nat) : Int)) (hi := none) (hiO_nat (by rw [List.length_map]; exact n1)) hiO_none
  obtain ⟨q, hq, eq⟩ := hsb.cut (lo := some ((alike (tokens s) (tokens (doS s f t x).1) : Nat) : Int)) (hi := none) (hiO_nat (by rw [List.length_map]; exact n2)) hiO_none
  rw [List.take_length, ← List.map_drop] at hp hq
  obtain ⟨p', hp', sp⟩ := turned_ok hp (by rw [List.length_drop]; omega)
  obtain ⟨q', hq', sq⟩ := turned_ok hq (by rw [List.length_drop]; omega)
  have c3 := fun {β : Type} (st : St) (K : Kv β) => callS_bare (f := 18) st K rfl (by simp only [List.map_cons, List.map_nil, hp.strip]) (b1 hp.bare) hp'
  have c4 := fun {β : Type} (st : St) (K : Kv β) => callS_bare (f := 18) st K rfl (by simp only [List.map_cons, List.map_nil, hq.strip]) (b1 hq.bare) hq'
  have c5 := fun {β : Type} (st : St) (K : Kv β) => callS_bare (f := 17) st K rfl (by simp only [List.map_cons, List.map_nil, sp.strip, sq.strip]) (b2 sp.bare sq.bare) (alike_ok sp sq)
  obtain ⟨st1, g1, _, _, fx, e1⟩ := var_put (O := orc vE) (st := St.mk 1 0 (Tr.node (some (VM.Obj.cells 29 [AV.int .i64 0, AV.int .i64 0])) Tr.leaf Tr.leaf)) (id := 0) (t := 29) (z := 2) (old := [.int .i64 0, .int .i64 0])
    (cs := [.int .i64 (headN (tokens s) (tokens (doS s f t x).1) : Int), .int .i64 (tailN (tokens s) (tokens (doS s f t x).1) : Int)]) (.agg [.int .i64 (headN (tokens s) (tokens (doS s f t x).1) : Int), .int .i64 (tailN (tokens s) (tokens (doS s f t x).1) : Int)]) rfl rfl rfl (Nat.le_refl _)
  unfold headN tailN at e1 g1
  have hf : ∀ (K : AV → Option AV), frzS st1 0 (.tup [b, .agg [.int .i64 (alike (tokens s) (tokens (doS s f t x).1) : Int), .int .i64 (alike ((tokens s).drop (alike (tokens s) (tokens (doS s f t x).1))).reverse ((tokens (doS s f t x).1).drop (alike (tokens s) (tokens (doS s f t x).1))).reverse : Int)], .int .i64 0]) K = K (.tup [b, _, .int .i64 0]) := fun K =>
    frz_tup (allE_cons (fz_sl hsb st1 0 99 (by omega)) (allE_cons rfl (allE_cons rfl allE_nil))) (by simp only [bares_cons, hsb.bare]; rfl) K
  refine ⟨b, bare_of rfl ((g9_eq _ _).trans ?_), hsb⟩
  unfold edV headN tailN
  unfold edV at c1
  rw [h] at c1
  have q00 : ((0 : Int) = 0) := rfl
  have ak : apart ⟨[], .kept⟩ q0 = true := rfl
  have ak2 : apart q0 ⟨[], .kept⟩ = true := rfl
  simp only [g9, asS_str, unA_agg, unc_cons, asI_int, un0_nil, c1, unT_tup, nthS_zero, nthS_one, nthS_two, nthS_three, ifB_bne, if_true, c2, ep, eq, c3, c4, c5, ak, ak2, Bool.and_self, chk_true, e1, loadS_mp g1, List.drop_zero, takeO2, bindO_ok, hf]
end Go.Proofs.YtgaciccgmjcbmaaDoor.Vm
/- Rows of edits: what both answer. -/
set_option maxRecDepth 100000
set_option linter.unusedSimpArgs false
namespace Go.Proofs.YtgaciccgmjcbmaaDoor.Vm
open Go Go.VM Go.Proofs Go.Lex

abbrev Ed := Int × Int × List UInt8
def edA (e : Ed) : AV := edV e.1 e.2.1 e.2.2
def rowF : List UInt8 → List Ed → Nat → List (Nat × List UInt8) × Int × Int
  | s, [], _ => (tokens s, 0, 0)
  | s, e :: l, i => if (doS s e.1 e.2.1 e.2.2).2 = 0 then rowF (doS s e.1 e.2.1 e.2.2).1 l (i + 1) else ([], (i : Int), (doS s e.1 e.2.1 e.2.2).2)
def rowS (s : List UInt8) (l : List Ed) : List (Nat × List UInt8) × Int × Int := if okS s = 0 then rowF s l 0 else ([], 0, okS s)
theorem row_loop {x : AV} {es : List Ed} (hx : IsSl 3 x (es.map edA)) (hes : ∀ e ∈ es, e.2.2.length ≤ 1000000) : ∀ (l : List Ed) (j : Nat) (s : List UInt8) (v : AV) (st : St), es.drop j = l → okS s = 0 → IsSl 2 v ((tokens s).map tok) → st.ro ≤ st.h →
    ((rowF s l j).2.2 = 0 → ∃ v' st', loopO (g13_L1 x es.length) ([.str s, v, .int .i64 0, .nils, .int .i64 0, .int .i64 0, .int .i64 (j : Int)], st) = some (0, [v', .nils, .int .i64 0, .int .i64 0], st') ∧ IsSl 2 v' ((rowF s l j).1.map tok) ∧ (rowF s l j).2.1 = 0) ∧
    ((rowF s l j).2.2 ≠ 0 → ∃ u st', loopO (g13_L1 x es.length) ([.str s, v, .int .i64 0, .nils, .int .i64 0, .int .i64 0, .int .i64 (j : Int)], st) = some (1, [u, .nils, .int .i64 (rowF s l j).2.1, .int .i64 (rowF s l j).2.2], st') ∧ (rowF s l j).1 = [])
  | [], j, s, v, st, hd, hs, hv, hro => by
    have := List.drop_eq_nil_iff.1 hd
    have q : ¬ (j : Int) < (es.length : Int) := by omega
    refine ⟨fun _ => ⟨v, st, loopO_inr ?_, hv, rfl⟩, fun h => absurd rfl h⟩
    simp only [g13_L1, unc_cons, asS_str, asI_int, un0_nil, ifB_decide, if_neg q]
  | e :: l, j, s, v, st, hd, hs, hv, hro => by
    obtain ⟨hg, hr, hlt⟩ := drop_cons hd
    have q : (j : Int) < (es.length : Int) := by omega
    have hlen := hx.1
    rw [List.length_map] at hlen
    have he := hes e (List.mem_of_getElem? hg)
    have hi := fun {β : Type} (st : St) (K : AV → List Nat → Option β) => hx.idx (k := j) (v := edA e) (by rw [List.getElem?_map, hg]; rfl) st K
    have hi : ∀ {β : Type} (st : St) (K : AV → List Nat → Option β), idxA 3 x (j : Int) st K = K (.ip [.int .i64 e.1, .int .i64 e.2.1, .str e.2.2]) [] := fun st K => hi st K
    obtain ⟨s1, g1, k1, n1, fx1, e1⟩ := local_var (O := orc vE) (st := st) (t := 25) (z := 3) (old := [.int .i64 0, .int .i64 0, .str []]) (cs := [.int .i64 e.1, .int .i64 e.2.1, .str e.2.2]) (edA e) rfl rfl hro
    unfold edA edV at e1
    obtain ⟨a, b, hag, _, hsb⟩ := again_ok (s := s) e.1 e.2.1 he
    unfold edV at hag
    have c1 := fun {β : Type} (st : St) (K : Kv β) => callS_bare st K rfl rfl rfl hag
    simp only [rowF]
    by_cases h0 : (doS s e.1 e.2.1 e.2.2).2 = 0
    · rw [if_pos h0]
      rw [if_pos h0] at hsb
      have ih := row_loop hx hes l (j + 1) (doS s e.1 e.2.1 e.2.2).1 b s1 hr (by rw [(doS_ok h0).2.2.2.2.2]; exact (doS_ok h0).2.2.2.2.1) hsb (by rw [k1.ro]; exact Nat.le_trans hro k1.h)
      have step : loopO (g13_L1 x es.length) ([.str s, v, .int .i64 0, .nils, .int .i64 0, .int .i64 0, .int .i64 (j : Int)], st) = loopO (g13_L1 x es.length) ([.str (doS s e.1 e.2.1 e.2.2).1, b, .int .i64 0, .nils, .int .i64 0, .int .i64 0, .int .i64 ((j + 1 : Nat) : Int)], s1) := by
        refine loopO_inl ?_
        simp only [g13_L1, unc_cons, asS_str, asI_int, un0_nil, ifB_decide, if_pos q, hi, loadS_ip, takeO3, bindO_ok, unA_agg, letSt_eq, e1, loadS_mp g1, List.drop_zero, c1, unT_tup, nthS_zero, nthS_one, nthS_two, nthS_three, h0, ifB_bne, if_true, letV_eq, wrapA1 (show j + 1 ≤ 9223372036854775807 by omega)]
      rw [step]
      exact ih
    · rw [if_neg h0]
      refine ⟨fun h => absurd h h0, fun _ => ⟨b, s1, loopO_inr ?_, rfl⟩⟩
      simp only [g13_L1, unc_cons, asS_str, asI_int, un0_nil, ifB_decide, if_pos q, hi, loadS_ip, takeO3, bindO_ok, unA_agg, letSt_eq, e1, loadS_mp g1, List.drop_zero, c1, unT_tup, nthS_zero, nthS_one, nthS_two, nthS_three, ifB_bne, if_neg h0]
theorem row_ok {x : AV} {es : List Ed} {s : List UInt8} (hx : IsSl 3 x (es.map edA)) (hes : ∀ e ∈ es, e.2.2.length ≤ 1000000) :
    ∃ y, (orc vE).bare 13 [.str s, x] = some (.tup [y, .int .i64 (rowS s es).2.1, .int .i64 (rowS s es).2.2]) ∧ IsSl 2 y ((rowS s es).1.map tok) := by
  obtain ⟨a, ha, hsa⟩ := tokens_any s
  have c1 := fun {β : Type} (st : St) (K : Kv β) => callS_bare st K rfl rfl rfl ha
  have hlen := fun {β : Type} (K : Nat → Option β) => hx.len K
  simp only [List.length_map] at hlen
  unfold rowS
  by_cases h1 : okS s = 0
  · rw [if_pos h1] at hsa ⊢
    obtain ⟨l1, l2⟩ := row_loop hx hes es 0 s a (St.mk 0 0 Tr.leaf) rfl h1 hsa (Nat.le_refl _)
    by_cases h2 : (rowF s es 0).2.2 = 0
    · obtain ⟨v', st', e, hv, h3⟩ := l1 h2
      have e : loopO (g13_L1 x es.length) ([.str s, a, .int .i64 0, .nils, .int .i64 0, .int .i64 0, .int .i64 0], St.mk 0 0 Tr.leaf) = _ := e
      have hf : ∀ (K : AV → Option AV), frzS st' 0 (.tup [v', .int .i64 0, .int .i64 0]) K = K (.tup [v', .int .i64 0, .int .i64 0]) := fun K =>
        frz_tup (allE_cons (fz_sl hv st' 0 99 (by omega)) (allE_cons rfl (allE_cons rfl allE_nil))) (by simp only [bares_cons, hv.bare]; rfl) K
      refine ⟨v', bare_of rfl ((g13_eq _ _).trans ?_), hv⟩
      rw [h2, h3]
      simp only [g13, asS_str, c1, h1, unT_tup, nthS_zero, nthS_one, asI_int, ifB_bne, if_true, hlen, e, bindO_ok, unc_cons, un0_nil, sel2_zero, hf]
    · obtain ⟨u, st', e, h3⟩ := l2 h2
      have e : loopO (g13_L1 x es.length) ([.str s, a, .int .i64 0, .nils, .int .i64 0, .int .i64 0, .int .i64 0], St.mk 0 0 Tr.leaf) = _ := e
      have hf : ∀ (n m : Int) (K : AV → Option AV), frzS st' 0 (.tup [.nils, .int .i64 n, .int .i64 m]) K = K (.tup [.nils, .int .i64 n, .int .i64 m]) := fun n m K =>
        frz_tup (allE_cons rfl (allE_cons rfl (allE_cons rfl allE_nil))) rfl K
      refine ⟨.nils, bare_of rfl ((g13_eq _ _).trans ?_), by rw [h3]; exact IsSl.nils⟩
      simp only [g13, asS_str, c1, h1, unT_tup, nthS_zero, nthS_one, asI_int, ifB_bne, if_true, hlen, e, bindO_ok, unc_cons, un0_nil, sel2_one, hf]
  · rw [if_neg h1]
    refine ⟨.nils, bare_of rfl ((g13_eq _ _).trans ?_), IsSl.nils⟩
    simp only [g13, asS_str, c1, unT_tup, nthS_zero, nthS_one, asI_int, ifB_bne, if_neg h1]
theorem rrow_loop {x : AV} {es : List Ed} (hx : IsSl 3 x (es.map edA)) (hes : ∀ e ∈ es, e.2.2.length ≤ 1000000) : ∀ (l : List Ed) (j : Nat) (s : List UInt8) (v : AV) (st : St), es.drop j = l → okS s = 0 → IsSl 2 v ((tokens s).map tok) →
    ((rowF s l j).2.2 = 0 → ∃ v' st', loopO (g14_L1 x) ([.nils, .int .i64 0, .int .i64 0, .str s, v, .int .i64 (j : Int)], st) = some (0, [.nils, .int .i64 0, .int .i64 0, v'], st') ∧ IsSl 2 v' ((rowF s l j).1.map tok) ∧ (rowF s l j).2.1 = 0) ∧
    ((rowF s l j).2.2 ≠ 0 → ∃ u st', loopO (g14_L1 x) ([.nils, .int .i64 0, .int .i64 0, .str s, v, .int .i64 (j : Int)], st) = some (1, [.nils, .int .i64 (rowF s l j).2.1, .int .i64 (rowF s l j).2.2, u], st') ∧ (rowF s l j).1 = [])
  | [], j, s, v, st, hd, hs, hv => by
    have := List.drop_eq_nil_iff.1 hd
    have q : ¬ (j : Int) < ((es.map edA).length : Int) := by rw [List.length_map]; omega
    refine ⟨fun _ => ⟨v, st, loopO_inr ?_, hv, rfl⟩, fun h => absurd rfl h⟩
    simp only [g14_L1, unc_cons, asS_str, asI_int, un0_nil, hx.len, ifB_decide, if_neg q]
  | e :: l, j, s, v, st, hd, hs, hv => by
    obtain ⟨hg, hr, hlt⟩ := drop_cons hd
    have q : (j : Int) < ((es.map edA).length : Int) := by rw [List.length_map]; omega
    have hlen := hx.1
    rw [List.length_map] at hlen
    have he := hes e (List.mem_of_getElem? hg)
    have hi := fun {β : Type} (st : St) (K : AV → List Nat → Option β) => hx.idx (k := j) (v := edA e) (by rw [List.getElem?_map, hg]; rfl) st K
    have hi : ∀ {β : Type} (st : St) (K : AV → List Nat → Option β), idxA 3 x (j : Int) st K = K (.ip [.int .i64 e.1, .int .i64 e.2.1, .str e.2.2]) [] := fun st K => hi st K
    have hag := rdo_ok (s := s) e.1 e.2.1 he
    unfold edV at hag
    have c1 := fun {β : Type} (st : St) (K : Kv β) => callS_bare st K rfl rfl rfl hag
    simp only [rowF]
    by_cases h0 : (doS s e.1 e.2.1 e.2.2).2 = 0
    · have ho : okS (doS s e.1 e.2.1 e.2.2).1 = 0 := by rw [(doS_ok h0).2.2.2.2.2]; exact (doS_ok h0).2.2.2.2.1
      obtain ⟨b, hb, hsb⟩ := rtokens_any (doS s e.1 e.2.1 e.2.2).1
      rw [if_pos ho] at hsb
      have c2 := fun {β : Type} (st : St) (K : Kv β) => callS_bare st K rfl rfl rfl hb
      rw [if_pos h0]
      have ih := rrow_loop hx hes l (j + 1) (doS s e.1 e.2.1 e.2.2).1 b st hr ho hsb
      have step : loopO (g14_L1 x) ([.nils, .int .i64 0, .int .i64 0, .str s, v, .int .i64 (j : Int)], st) = loopO (g14_L1 x) ([.nils, .int .i64 0, .int .i64 0, .str (doS s e.1 e.2.1 e.2.2).1, b, .int .i64 ((j + 1 : Nat) : Int)], st) := by
        refine loopO_inl ?_
        simp only [g14_L1, unc_cons, asS_str, asI_int, un0_nil, hx.len, ifB_decide, if_pos q, hi, loadS_ip, takeO3, bindO_ok, unA_agg, c1, c2, unT_tup, nthS_zero, nthS_one, h0, ifB_bne, if_true, letV_eq, wrapA1 (show j + 1 ≤ 9223372036854775807 by omega)]
      rw [step]
      exact ih
    · rw [if_neg h0]
      refine ⟨fun h => absurd h h0, fun _ => ⟨v, st, loopO_inr ?_, rfl⟩⟩
      simp only [g14_L1, unc_cons, asS_str, asI_int, un0_nil, hx.len, ifB_decide, if_pos q, hi, loadS_ip, takeO3, bindO_ok, unA_agg, c1, unT_tup, nthS_zero, nthS_one, ifB_bne, if_neg h0]
theorem rrow_ok {x : AV} {es : List Ed} {s : List UInt8} (hx : IsSl 3 x (es.map edA)) (hes : ∀ e ∈ es, e.2.2.length ≤ 1000000) :
    ∃ y, (orc vE).bare 14 [.str s, x] = some (.tup [y, .int .i64 (rowS s es).2.1, .int .i64 (rowS s es).2.2]) ∧ IsSl 2 y ((rowS s es).1.map tok) := by
  obtain ⟨a, ha, hsa⟩ := rtokens_any s
  have c1 := fun {β : Type} (st : St) (K : Kv β) => callS_bare st K rfl rfl rfl ha
  unfold rowS
  by_cases h1 : okS s = 0
  · rw [if_pos h1] at hsa ⊢
    obtain ⟨l1, l2⟩ := rrow_loop hx hes es 0 s a (St.mk 0 0 Tr.leaf) rfl h1 hsa
    by_cases h2 : (rowF s es 0).2.2 = 0
    · obtain ⟨v', st', e, hv, h3⟩ := l1 h2
      have e : loopO (g14_L1 x) ([.nils, .int .i64 0, .int .i64 0, .str s, a, .int .i64 0], St.mk 0 0 Tr.leaf) = _ := e
      have hf : ∀ (K : AV → Option AV), frzS st' 0 (.tup [v', .int .i64 0, .int .i64 0]) K = K (.tup [v', .int .i64 0, .int .i64 0]) := fun K =>
        frz_tup (allE_cons (fz_sl hv st' 0 99 (by omega)) (allE_cons rfl (allE_cons rfl allE_nil))) (by simp only [bares_cons, hv.bare]; rfl) K
      refine ⟨v', bare_of rfl ((g14_eq _ _).trans ?_), hv⟩
      rw [h2, h3]
      simp only [g14, asS_str, c1, h1, unT_tup, nthS_zero, nthS_one, asI_int, ifB_bne, if_true, e, bindO_ok, unc_cons, un0_nil, sel2_zero, hf]
    · obtain ⟨u, st', e, h3⟩ := l2 h2
      have e : loopO (g14_L1 x) ([.nils, .int .i64 0, .int .i64 0, .str s, a, .int .i64 0], St.mk 0 0 Tr.leaf) = _ := e
      have hf : ∀ (n m : Int) (K : AV → Option AV), frzS st' 0 (.tup [.nils, .int .i64 n, .int .i64 m]) K = K (.tup [.nils, .int .i64 n, .int .i64 m]) := fun n m K =>
        frz_tup (allE_cons rfl (allE_cons rfl (allE_cons rfl allE_nil))) rfl K
      refine ⟨.nils, bare_of rfl ((g14_eq _ _).trans ?_), by rw [h3]; exact IsSl.nils⟩
      simp only [g14, asS_str, c1, h1, unT_tup, nthS_zero, nthS_one, asI_int, ifB_bne, if_true, e, bindO_ok, unc_cons, un0_nil, sel2_one, hf]
  · rw [if_neg h1]
    refine ⟨.nils, bare_of rfl ((g14_eq _ _).trans ?_), IsSl.nils⟩
    simp only [g14, asS_str, c1, unT_tup, nthS_zero, nthS_one, asI_int, ifB_bne, if_neg h1]
end Go.Proofs.YtgaciccgmjcbmaaDoor.Vm
/- The laws: awake, Anew, Rows, Back, Keeps. -/
set_option maxRecDepth 100000
set_option linter.unusedSimpArgs false
namespace Go.Proofs.YtgaciccgmjcbmaaDoor.Vm
open Go Go.VM Go.Proofs Go.Lex

theorem aw_do : doS [108, 101, 116, 32, 120, 32, 61, 32, 49] 8 9 [50, 51] = ([108, 101, 116, 32, 120, 32, 61, 32, 50, 51], 0) := by decide +kernel
theorem aw_t1 : tokens [108, 101, 116, 32, 120, 32, 61, 32, 49] = [(3, [108, 101, 116]), (1, [32]), (4, [120]), (1, [32]), (8, [61]), (1, [32]), (5, [49])] := by decide +kernel
theorem aw_t2 : tokens [108, 101, 116, 32, 120, 32, 61, 32, 50, 51] = [(3, [108, 101, 116]), (1, [32]), (4, [120]), (1, [32]), (8, [61]), (1, [32]), (5, [50, 51])] := by decide +kernel
theorem eq_kept (a b c d : Int) : eqT (Env.T vE) 20 29 (.agg [.int .i64 a, .int .i64 b]) (.agg [.int .i64 c, .int .i64 d]) = .ok (a == c && b == d) := by
  have h : eqT (Env.T vE) 20 29 (.agg [.int .i64 a, .int .i64 b]) (.agg [.int .i64 c, .int .i64 d]) = (match a == c with | true => (match b == d with | true => .ok true | false => .ok false) | false => .ok false) := rfl
  rw [h]
  cases a == c <;> cases b == d <;> rfl
theorem eql_kept (a b c d : Int) : toO (VM.binOp (Env.T vE) BinOp.eql 29 (.agg [.int .i64 a, .int .i64 b]) (.agg [.int .i64 c, .int .i64 d])) = some (.bool (a == c && b == d)) := by
  have h : VM.binOp (Env.T vE) BinOp.eql 29 (.agg [.int .i64 a, .int .i64 b]) (.agg [.int .i64 c, .int .i64 d]) = (do pure (.bool (← eqT (Env.T vE) 20 29 (.agg [.int .i64 a, .int .i64 b]) (.agg [.int .i64 c, .int .i64 d])))) := rfl
  rw [h, eq_kept]; rfl
theorem awake_ok : (orc vE).bare 8 [] = some (.bool true) := by
  obtain ⟨b, hb, hs⟩ := relex_ok (s := [108, 101, 116, 32, 120, 32, 61, 32, 49]) (x := [50, 51]) 8 9 (by decide) (by rw [aw_do])
  rw [aw_do, aw_t1, aw_t2] at hb
  rw [aw_do, aw_t2] at hs
  have hn : headN [(3, [108, 101, 116]), (1, [32]), (4, [120]), (1, [32]), (8, [61]), (1, [32]), (5, [49])] [(3, [108, 101, 116]), (1, [32]), (4, [120]), (1, [32]), (8, [61]), (1, [32]), (5, [50, 51])] = 6 := by decide +kernel
  have ht : tailN [(3, [108, 101, 116]), (1, [32]), (4, [120]), (1, [32]), (8, [61]), (1, [32]), (5, [49])] [(3, [108, 101, 116]), (1, [32]), (4, [120]), (1, [32]), (8, [61]), (1, [32]), (5, [50, 51])] = 0 := by decide +kernel
  rw [hn, ht] at hb
  unfold edV at hb
  have c1 := fun {β : Type} (st : St) (K : Kv β) => callS_bare st K rfl rfl rfl hb
  have hi := fun {β : Type} (st : St) (K : AV → List Nat → Option β) => toks_idx hs (j := 6) rfl st K
  have hi : ∀ {β : Type} (st : St) (K : AV → List Nat → Option β), idxA 2 b 6 st K = K (.ip [.int .u8 5, .str [50, 51]]) [] := fun st K => hi st K
  have hl := fun {β : Type} (K : Nat → Option β) => hs.len K
  have hl : ∀ {β : Type} (K : Nat → Option β), lenS b K = K 7 := fun K => hl K
  obtain ⟨s1, g1, k1, n1, fx1, e1⟩ := local_var (O := orc vE) (st := St.mk 0 0 Tr.leaf) (t := 29) (z := 2) (old := [.int .i64 0, .int .i64 0]) (cs := [.int .i64 ((6 : Nat) : Int), .int .i64 ((0 : Nat) : Int)]) (.agg [.int .i64 ((6 : Nat) : Int), .int .i64 ((0 : Nat) : Int)]) rfl rfl (Nat.le_refl _)
  refine bare_of rfl (g8_eq.trans ?_)
  have q7 : (((7 : Nat) : Int) = 7) := rfl
  have e5 : (((5 : Int) == 5) && (([50, 51] : List UInt8) == [50, 51])) = true := rfl
  have e6 : (((((6 : Nat) : Int)) == 6) && ((((0 : Nat) : Int)) == 0)) = true := rfl
  simp only [g8, c1, unT_tup, nthS_zero, nthS_one, nthS_two, unA_agg, unc_cons, asI_int, un0_nil, letSt_eq, e1, ifB_beq, if_true, hl, if_pos q7, hi, loadS_ip, takeO2, bindO_ok, asS_str, eql_tok, e5, asB_bool, ifB_true, loadS_mp g1, List.drop_zero, eql_kept, e6]
theorem call_awake {β : Type} (st : St) (K : Kv β) : callS (orc vE) 8 [] st K = K (.bool true) st q0 := callS_bare st K rfl rfl rfl awake_ok
theorem call_same {β : Type} {x y : AV} {es : List (Nat × List UInt8)} (hx : IsSl 2 x (es.map tok)) (hy : IsSl 2 y (es.map tok)) (st : St) (K : Kv β) : callS (orc vE) 11 [x, y] st K = K (.bool true) st q0 :=
  callS_bare st K rfl (by simp only [List.map_cons, List.map_nil, hx.strip, hy.strip]) (by simp only [bares_cons, hx.bare, hy.bare]; rfl) (rsame_ok hx hy)
theorem beq_self_list (s : List UInt8) : (s == s) = true := by simp
theorem law_anew (s : List UInt8) (f t : Int) (x : List UInt8) : (orc vE).bare 4 [.str s, edV f t x] = some (.bool true) := by
  refine bare_of rfl ((g4_eq _ _).trans ?_)
  by_cases h1 : (s.length : Int) > 4000
  · simp only [g4, edV, asS_str, unA_agg, unc_cons, asI_int, un0_nil, ifB_decide, if_pos h1, bindO_ok, asB_bool, ifB_true, call_awake]
  by_cases h2 : (x.length : Int) > 4000
  · simp only [g4, edV, asS_str, unA_agg, unc_cons, asI_int, un0_nil, ifB_decide, if_neg h1, if_pos h2, bindO_ok, asB_bool, ifB_true, call_awake]
  have hx : x.length ≤ 1000000 := by omega
  have hd := do_ok (s := s) f t hx
  unfold edV at hd
  have c2 := fun {β : Type} (st : St) (K : Kv β) => callS_bare st K rfl rfl rfl hd
  by_cases h : (doS s f t x).2 = 0
  · obtain ⟨b, hb, hs⟩ := relex_ok (s := s) f t hx h
    unfold edV at hb
    have c1 := fun {β : Type} (st : St) (K : Kv β) => callS_bare st K rfl rfl rfl hb
    obtain ⟨d1, d2, d3, d4, d5, d6⟩ := doS_ok h
    obtain ⟨n, rfl⟩ := Int.eq_ofNat_of_zero_le d2
    obtain ⟨m, rfl⟩ := Int.eq_ofNat_of_zero_le (show 0 ≤ t by omega)
    obtain ⟨c, hc, hsc⟩ := tokens_any (doS s n m x).1
    have ho : okS (doS s n m x).1 = 0 := by rw [d6]; exact d5
    rw [if_pos ho] at hsc
    rw [ho] at hc
    have c3 := fun {β : Type} (st : St) (K : Kv β) => callS_bare st K rfl rfl rfl hc
    have e : (doS s n m x).1 = s.take n ++ x ++ s.drop m := by rw [d6]; rfl
    have eb : ((doS s n m x).1 == s.take n ++ x ++ s.drop m) = true := by rw [e]; exact beq_self_list _
    have b1 : Nat.ble ((s.take n).length + x.length) 9223372036854775807 = true := ble_of (by rw [List.length_take]; omega)
    have b2 : Nat.ble ((s.take n ++ x).length + (s.drop m).length) 9223372036854775807 = true := ble_of (by rw [List.length_append, List.length_take, List.length_drop]; omega)
    obtain ⟨s1, g1, k1, n1, fx1, e1⟩ := local_var (O := orc vE) (st := St.mk 0 0 Tr.leaf) (t := 29) (z := 2) (old := [.int .i64 0, .int .i64 0]) (cs := [.int .i64 (headN (tokens s) (tokens (doS s n m x).1) : Int), .int .i64 (tailN (tokens s) (tokens (doS s n m x).1) : Int)]) (.agg [.int .i64 (headN (tokens s) (tokens (doS s n m x).1) : Int), .int .i64 (tailN (tokens s) (tokens (doS s n m x).1) : Int)]) rfl rfl (Nat.le_refl _)
    rw [h] at c2
    simp only [g4, edV, asS_str, unA_agg, unc_cons, asI_int, un0_nil, ifB_decide, if_neg h1, if_neg h2, call_awake, bindO_ok, asB_bool, Bool.not_true, ifB_false, c1, unT_tup, nthS_zero, nthS_one, nthS_two, letSt_eq, e1, c2, ifB_bne, if_true, c3, ifB_beq, call_same hs hsc, ifB_true, uptoS_nat (show n ≤ s.length by omega), uptoS_nat (show m ≤ s.length by omega), letV_eq, List.drop_zero, List.take_length, b1, b2, chk_true, eb]
  · have hr := relex_fail (s := s) f t hx h
    unfold edV at hr
    have c1 := fun {β : Type} (st : St) (K : Kv β) => callS_bare st K rfl rfl rfl hr
    obtain ⟨s1, g1, k1, n1, fx1, e1⟩ := local_var (O := orc vE) (st := St.mk 0 0 Tr.leaf) (t := 29) (z := 2) (old := [.int .i64 0, .int .i64 0]) (cs := [.int .i64 0, .int .i64 0]) (.agg [.int .i64 0, .int .i64 0]) rfl rfl (Nat.le_refl _)
    rw [doS_fail h] at c2
    have q0' : (((0 : Nat) : Int) = 0) := rfl
    have qe : (([] : List UInt8) == []) = true := rfl
    simp only [g4, edV, asS_str, unA_agg, unc_cons, asI_int, un0_nil, ifB_decide, if_neg h1, if_neg h2, call_awake, bindO_ok, asB_bool, Bool.not_true, ifB_false, c1, unT_tup, nthS_zero, nthS_one, nthS_two, letSt_eq, e1, c2, ifB_bne, if_neg h, ifB_beq, if_true, lenS_nils, if_pos q0', qe]
theorem rows_loop {x : AV} {es : List Ed} (hx : IsSl 3 x (es.map edA)) (st : St) : ∀ (l : List Ed) (j : Nat), es.drop j = l →
    (loopO (g5_L1 x) ([.bool false, .int .i64 (j : Int)], st) = some (0, [.bool false], st) ∧ ∀ e ∈ l, e.2.2.length ≤ 500) ∨ loopO (g5_L1 x) ([.bool false, .int .i64 (j : Int)], st) = some (1, [.bool true], st)
  | [], j, hd => by
    have := List.drop_eq_nil_iff.1 hd
    have q : ¬ (j : Int) < ((es.map edA).length : Int) := by rw [List.length_map]; omega
    refine .inl ⟨loopO_inr ?_, fun e he => by cases he⟩
    simp only [g5_L1, unc_cons, asB_bool, asI_int, un0_nil, hx.len, ifB_decide, if_neg q]
  | e :: l, j, hd => by
    obtain ⟨hg, hr, hlt⟩ := drop_cons hd
    have q : (j : Int) < ((es.map edA).length : Int) := by rw [List.length_map]; omega
    have hlen := hx.1
    rw [List.length_map] at hlen
    have hi := fun {β : Type} (st : St) (K : AV → List Nat → Option β) => hx.idx (k := j) (v := edA e) (by rw [List.getElem?_map, hg]; rfl) st K
    have hi : ∀ {β : Type} (st : St) (K : AV → List Nat → Option β), idxA 3 x (j : Int) st K = K (.ip [.int .i64 e.1, .int .i64 e.2.1, .str e.2.2]) [] := fun st K => hi st K
    by_cases h : (e.2.2.length : Int) > 500
    · refine .inr (loopO_inr ?_)
      simp only [g5_L1, unc_cons, asB_bool, asI_int, un0_nil, hx.len, ifB_decide, if_pos q, hi, fldA_ip, drop2, loadS_ip, takeO_one, bindO_ok, asS_str, if_pos h, call_awake]
    · have step : loopO (g5_L1 x) ([.bool false, .int .i64 (j : Int)], st) = loopO (g5_L1 x) ([.bool false, .int .i64 ((j + 1 : Nat) : Int)], st) := by
        refine loopO_inl ?_
        simp only [g5_L1, unc_cons, asB_bool, asI_int, un0_nil, hx.len, ifB_decide, if_pos q, hi, fldA_ip, drop2, loadS_ip, takeO_one, bindO_ok, asS_str, if_neg h, letV_eq, wrapA1 (show j + 1 ≤ 9223372036854775807 by omega)]
      rw [step]
      rcases rows_loop hx st l (j + 1) hr with ⟨h1, h2⟩ | h1
      · refine .inl ⟨h1, fun e' he' => ?_⟩
        rcases List.mem_cons.1 he' with rfl | he'
        · omega
        · exact h2 e' he'
      · exact .inr h1
theorem law_rows (s : List UInt8) {x : AV} {es : List Ed} (hx : IsSl 3 x (es.map edA)) : (orc vE).bare 5 [.str s, x] = some (.bool true) := by
  refine bare_of rfl ((g5_eq _ _).trans ?_)
  by_cases h1 : ((es.map edA).length : Int) > 20
  · simp only [g5, asS_str, hx.len, ifB_decide, if_pos h1, call_awake, asB_bool]
  rcases rows_loop hx (St.mk 0 0 Tr.leaf) es 0 rfl with ⟨e, hes⟩ | e
  · have e : loopO (g5_L1 x) ([.bool false, .int .i64 0], St.mk 0 0 Tr.leaf) = _ := e
    by_cases h2 : (s.length : Int) > 2000
    · simp only [g5, asS_str, hx.len, ifB_decide, if_neg h1, e, bindO_ok, unc_cons, asB_bool, un0_nil, sel2_zero, if_pos h2, call_awake]
    · have hes' : ∀ e ∈ es, e.2.2.length ≤ 1000000 := fun e he => Nat.le_trans (hes e he) (by omega)
      obtain ⟨y, hy, sy⟩ := row_ok (s := s) hx hes'
      obtain ⟨z, hz, sz⟩ := rrow_ok (s := s) hx hes'
      have c1 := fun {β : Type} (st : St) (K : Kv β) => callS_bare (f := 13) st K rfl (by simp only [List.map_cons, List.map_nil, hx.strip]; rfl) (by simp only [bares_cons, hx.bare]; rfl) hy
      have c2 := fun {β : Type} (st : St) (K : Kv β) => callS_bare (f := 14) st K rfl (by simp only [List.map_cons, List.map_nil, hx.strip]; rfl) (by simp only [bares_cons, hx.bare]; rfl) hz
      simp only [g5, asS_str, hx.len, ifB_decide, if_neg h1, e, bindO_ok, unc_cons, asB_bool, un0_nil, sel2_zero, if_neg h2, call_awake, c1, c2, unT_tup, nthS_zero, nthS_one, nthS_two, asI_int, call_same sy sz, ifB_true, ifB_beq, if_true]
  · have e : loopO (g5_L1 x) ([.bool false, .int .i64 0], St.mk 0 0 Tr.leaf) = _ := e
    simp only [g5, asS_str, hx.len, ifB_decide, if_neg h1, e, bindO_ok, unc_cons, asB_bool, un0_nil, sel2_one]
theorem law_back (s : List UInt8) (f t : Int) (x : List UInt8) : (orc vE).bare 7 [.str s, edV f t x] = some (.bool true) := by
  refine bare_of rfl ((g7_eq _ _).trans ?_)
  by_cases h1 : (s.length : Int) > 3000
  · simp only [g7, edV, asS_str, unA_agg, unc_cons, asI_int, un0_nil, ifB_decide, if_pos h1, bindO_ok, asB_bool, ifB_true, call_awake]
  by_cases h2 : (x.length : Int) > 3000
  · simp only [g7, edV, asS_str, unA_agg, unc_cons, asI_int, un0_nil, ifB_decide, if_neg h1, if_pos h2, bindO_ok, asB_bool, ifB_true, call_awake]
  have hx : x.length ≤ 1000000 := by omega
  have hd := do_ok (s := s) f t hx
  unfold edV at hd
  have c1 := fun {β : Type} (st : St) (K : Kv β) => callS_bare st K rfl rfl rfl hd
  by_cases h : (doS s f t x).2 = 0
  · obtain ⟨d1, d2, d3, d4, d5, d6⟩ := doS_ok h
    obtain ⟨n, rfl⟩ := Int.eq_ofNat_of_zero_le d2
    obtain ⟨m, rfl⟩ := Int.eq_ofNat_of_zero_le (show 0 ≤ t by omega)
    have hnm : n ≤ m := by omega
    have hms : m ≤ s.length := by omega
    have hb : outE (doS s n m x).1 (n : Int) ((n + x.length : Nat) : Int) ((s.take m).drop n) = s := by
      rw [d6, List.drop_take]
      exact out_back hnm hms
    have hol : n + x.length ≤ (doS s n m x).1.length := by
      rw [d6]
      show n + x.length ≤ (s.take n ++ x ++ s.drop m).length
      rw [List.length_append, List.length_append, List.length_take]; omega
    have hdb : doS (doS s n m x).1 (n : Int) ((n + x.length : Nat) : Int) ((s.take m).drop n) = (s, 0) := by
      have ho : okS (doS s n m x).1 = 0 := by rw [d6]; exact d5
      have q : ¬ ((n : Int) < 0 ∨ (n : Int) > ((n + x.length : Nat) : Int) ∨ ((n + x.length : Nat) : Int) > ((doS s n m x).1.length : Int)) := by omega
      show (if okS _ ≠ 0 then _ else if _ then _ else if _ then _ else _) = _
      rw [if_neg (by simpa using ho), if_neg q, hb, if_neg (by simpa using d1)]
    have hbl : ((s.take m).drop n).length ≤ 1000000 := by rw [List.length_drop, List.length_take]; omega
    have hd2 := do_ok (s := (doS s n m x).1) (n : Int) ((n + x.length : Nat) : Int) hbl
    rw [hdb] at hd2
    unfold edV at hd2
    have c2 := fun {β : Type} (st : St) (K : Kv β) => callS_bare st K rfl rfl rfl hd2
    have hrow : rowS s [((n : Int), (m : Int), x), ((n : Int), ((n + x.length : Nat) : Int), (s.take m).drop n)] = (tokens s, 0, 0) := by
      show (if okS s = 0 then rowF s _ 0 else _) = _
      rw [if_pos d1]
      show (if (doS s n m x).2 = 0 then rowF (doS s n m x).1 [_] 1 else _) = _
      rw [if_pos h]
      show (if (doS (doS s n m x).1 (n : Int) ((n + x.length : Nat) : Int) ((s.take m).drop n)).2 = 0 then rowF (doS (doS s n m x).1 (n : Int) ((n + x.length : Nat) : Int) ((s.take m).drop n)).1 [] 2 else _) = _
      rw [hdb]; rfl
    obtain ⟨y, hy, sy⟩ := row_ok (s := s) (x := .sl 3 ([((n : Int), (m : Int), x), ((n : Int), ((n + x.length : Nat) : Int), (s.take m).drop n)].map edA) .shut) (es := [((n : Int), (m : Int), x), ((n : Int), ((n + x.length : Nat) : Int), (s.take m).drop n)]) (IsSl.shut (by simp)) (fun e he => by
      simp only [List.mem_cons, List.mem_nil_iff, or_false] at he
      rcases he with rfl | rfl
      · exact hx
      · exact hbl)
    rw [hrow] at hy sy
    have hy : (orc vE).bare 13 [.str s, .sl 3 [.agg [.int .i64 (n : Int), .int .i64 (m : Int), .str x], .agg [.int .i64 (n : Int), .int .i64 ((n + x.length : Nat) : Int), .str ((s.take m).drop n)]] .shut] = _ := hy
    have c3 := fun {β : Type} (st : St) (K : Kv β) => callS_bare st K rfl rfl rfl hy
    obtain ⟨a, ha, hsa⟩ := tokens_any s
    rw [d1] at ha
    rw [if_pos d1] at hsa
    have c4 := fun {β : Type} (st : St) (K : Kv β) => callS_bare st K rfl rfl rfl ha
    obtain ⟨s1, g1, k1, n1, fx1, e1⟩ := local_var (O := orc vE) (st := St.mk 0 0 Tr.leaf) (t := 25) (z := 3) (old := [.int .i64 0, .int .i64 0, .str []]) (cs := [.int .i64 (n : Int), .int .i64 ((n + x.length : Nat) : Int), .str ((s.take m).drop n)]) (.agg [.int .i64 (n : Int), .int .i64 ((n + x.length : Nat) : Int), .str ((s.take m).drop n)]) rfl rfl (Nat.le_refl _)
    rw [h] at c1
    simp only [g7, edV, asS_str, unA_agg, unc_cons, asI_int, un0_nil, ifB_decide, if_neg h1, if_neg h2, call_awake, bindO_ok, asB_bool, Bool.not_true, ifB_false, c1, unT_tup, nthS_zero, nthS_one, nthS_two, ifB_bne, if_true, letV_eq, wrapA (show n + x.length ≤ 9223372036854775807 by omega), uptoS_nat hms, uptoS_nat hnm, letSt_eq, e1, loadS_mp g1, List.drop_zero, takeO3, c2, c3, c4, ifB_beq, beq_self_list, ifB_true, call_same sy hsa]
  · simp only [g7, edV, asS_str, unA_agg, unc_cons, asI_int, un0_nil, ifB_decide, if_neg h1, if_neg h2, call_awake, bindO_ok, asB_bool, Bool.not_true, ifB_false, c1, unT_tup, nthS_zero, nthS_one, ifB_bne, if_neg h]
end Go.Proofs.YtgaciccgmjcbmaaDoor.Vm
/- RelexNames: the examples and the errors. -/
set_option maxRecDepth 100000
set_option linter.unusedSimpArgs false
set_option maxHeartbeats 4000000
namespace Go.Proofs.YtgaciccgmjcbmaaDoor.Vm
open Go Go.VM Go.Proofs Go.Lex

theorem edit_ok (a b : Int) (x : List UInt8) {β : Type} (st : St) (K : Kv β) : callS (orc vE) 15 [.int .i64 a, .int .i64 b, .str x] st K = K (.agg [.int .i64 a, .int .i64 b, .str x]) st q0 :=
  callS_bare st K rfl rfl rfl (bare_of rfl ((g15_eq _ _ _).trans (by simp only [g15, asI_int, asS_str])))
/-- Every second byte. -/
def altC (i : Nat) : UInt8 := if i % 2 = 0 then 97 else 32
def alt : Nat → Nat → List UInt8
  | 0, _ => []
  | k + 1, i => altC i :: alt k (i + 1)
theorem alt_len : ∀ (k i : Nat), (alt k i).length = k
  | 0, _ => rfl
  | k + 1, i => by simp [alt, alt_len k]
theorem alt_asc : ∀ (k i : Nat), ∀ b ∈ alt k i, b.toNat < 128
  | 0, _, b, h => by cases h
  | k + 1, i, b, h => by
    rcases List.mem_cons.1 h with rfl | h
    · unfold altC; split <;> decide
    · exact alt_asc k (i + 1) b h
theorem alt_idx (i : Nat) {β : Type} (K : UInt8 → Option β) : idxStr [97, 32] (Int.tmod (i : Int) 2) K = K (altC i) := by
  have e : Int.tmod (i : Int) 2 = ((i % 2 : Nat) : Int) := rfl
  rw [e]
  have h2 : i % 2 = 0 ∨ i % 2 = 1 := by omega
  unfold altC
  rcases h2 with h | h
  · rw [h, idxStr_nat (by decide), if_pos rfl]; rfl
  · rw [h, idxStr_nat (by decide), if_neg (by decide)]; rfl
theorem many_loop {id : Nat} {T : TypeId} {n : Nat} (hn : n ≤ 1000000) : ∀ (k i : Nat) (L : List UInt8) (st : St), i + k = n → L.length = i → st.get id = .ok (.cells T (ofBytes (L ++ List.replicate k 0))) → st.ro ≤ id →
    ∃ st', loopO (g6_L1 (.ms id 0 1 n n)) ([.int .i64 (i : Int)], st) = some (0, [], st') ∧ st'.get id = .ok (.cells T (ofBytes (L ++ alt k i))) ∧ Keeps st st' (· = id)
  | 0, i, L, st, hi, hL, hg, hro => by
    have q : ¬ (i : Int) < (n : Int) := by omega
    refine ⟨st, loopO_inr ?_, hg, Keeps.refl _ _⟩
    have hlen : ∀ {β : Type} (K : Nat → Option β), lenS (.ms id 0 1 n n) K = K n := fun K => rfl
    simp only [g6_L1, unc_cons, asI_int, un0_nil, hlen, ifB_decide, if_neg q]
  | k + 1, i, L, st, hi, hL, hg, hro => by
    have q : (i : Int) < (n : Int) := by omega
    have hlen : ∀ {β : Type} (K : Nat → Option β), lenS (.ms id 0 1 n n) K = K n := fun K => rfl
    have hg' : st.get id = .ok (.cells T (flat (ofBytes (L ++ List.replicate (k + 1) 0)))) := by rw [flat_bytes]; exact hg
    obtain ⟨f1, hf1, b1⟩ := store_el (O := orc vE) (bytes_els _) hg' hro (k := i) (w := .int .u8 ((altC i).toNat : Int)) (by rw [ofBytes, List.length_map, List.length_append, List.length_replicate]; omega) rfl
    have hset : (ofBytes (L ++ List.replicate (k + 1) 0)).set i (.int .u8 ((altC i).toNat : Int)) = ofBytes ((L ++ [altC i]) ++ List.replicate k 0) := by
      unfold ofBytes
      rw [show (AV.int .u8 ((altC i).toNat : Int)) = (fun b : UInt8 => AV.int .u8 (b.toNat : Int)) (altC i) from rfl, ← List.map_set, List.set_append_right _ _ (by omega), hL, Nat.sub_self, List.replicate_succ]
      simp
    have hg2 : (st.put id (.cells T (flat ((ofBytes (L ++ List.replicate (k + 1) 0)).set i (.int .u8 ((altC i).toNat : Int)))))).get id = .ok (.cells T (ofBytes ((L ++ [altC i]) ++ List.replicate k 0))) := by
      rw [St.get_put_same (St.get_ok.1 hg).1, hset, flat_bytes]
    have hk2 : Keeps st (st.put id (.cells T (flat ((ofBytes (L ++ List.replicate (k + 1) 0)).set i (.int .u8 ((altC i).toNat : Int)))))) (· = id) := Keeps.put rfl
    generalize st.put id (.cells T (flat ((ofBytes (L ++ List.replicate (k + 1) 0)).set i (.int .u8 ((altC i).toNat : Int))))) = st1 at b1 hg2 hk2
    obtain ⟨st', e1, e2, e3⟩ := many_loop hn k (i + 1) (L ++ [altC i]) st1 (by omega) (by simp; omega) hg2 (by rw [hk2.ro]; exact hro)
    refine ⟨st', ?_, by rw [e2, List.append_assoc]; rfl, hk2.trans e3⟩
    simp only [cells_int] at b1
    rw [loopO_inl (s' := ([.int .i64 ((i + 1 : Nat) : Int)], st1)), e1]
    have i1 := fun {β : Type} (st : St) (K : AV → List Nat → Option β) => idx_ms (z := 1) (id := id) (c := n) (show i < n by omega) st K
    simp only [g6_L1, unc_cons, asI_int, un0_nil, hlen, ifB_decide, if_pos q, letV_eq, alt_idx, i1, b1, wrapA1 (show i + 1 ≤ 9223372036854775807 by omega)]
theorem make_ms {n : Nat} (h1 : 1 ≤ n) (h : n ≤ 1000000) : makeSliceP (Env.T vE) 46 (.int .i64 (n : Int)) (.int .i64 (n : Int)) = .ok (.new (.cells 5 (ofBytes (List.replicate n 0))) fun k => .ms k 0 1 n n) := by
  have e1 : ti (Env.T vE) 46 = .ok ⟨.slice 5, 1, 24, [.nils], false, false⟩ := rfl
  have e2 : ti (Env.T vE) 5 = .ok ⟨.int .u8, 1, 1, [.int .u8 0], false, false⟩ := rfl
  have c : (Nat.ble n n && Nat.ble (n * 1) 16777216 && Nat.ble (1 * n) 281474976710656 && Nat.ble n 9223372036854775807 && Nat.ble 1 1) = true := by
    rw [Nat.ble_eq_true_of_le (Nat.le_refl n), Nat.ble_eq_true_of_le (show n * 1 ≤ 16777216 by omega), Nat.ble_eq_true_of_le (show 1 * n ≤ 281474976710656 by omega), Nat.ble_eq_true_of_le (show n ≤ 9223372036854775807 by omega)]; rfl
  have hb : n.beq 0 = false := by cases n with | zero => omega | succ n => rfl
  have h0 : makeSliceP (Env.T vE) 46 (.int .i64 (n : Int)) (.int .i64 (n : Int)) = (do let it ← ti (Env.T vE) 46; match it.und, AV.int .i64 (Int.ofNat n), AV.int .i64 (Int.ofNat n) with
    | .slice e, .int _ (.ofNat l), .int _ (.ofNat c) => do
      let i ← ti (Env.T vE) e
      match l.ble c && (c * i.size).ble 16777216 && (i.bytes * c).ble 281474976710656 && c.ble 9223372036854775807 && Nat.ble 1 i.size with
      | true => match l.beq 0 with
        | true => pure (Plan.new (.tok 0 e) fun k => .sl i.size [] (.own k))
        | false => pure (Plan.new (.cells e (zeros i.zero c)) fun k => .ms k 0 i.size l c)
      | false => .error "make: size"
    | _, _, _ => .error "make: what?" : Res Plan) := rfl
  rw [h0]
  simp only [e1, e2, ok_bind, c, hb, zeros_bytes, pure_eq]
theorem conv_ms {id n : Nat} {T : TypeId} {s : List UInt8} {st : St} (hg : st.get id = .ok (.cells T (ofBytes s))) (hl : s.length = n) {β : Type} (K : Kv β) : planS (orc vE) (convertP (Env.T vE) 46 9 (.ms id 0 1 n n)) st K = K (.str s) st ⟨[id], .kept⟩ := by
  have e1 : ti (Env.T vE) 46 = .ok ⟨.slice 5, 1, 24, [.nils], false, false⟩ := rfl
  have e2 : ti (Env.T vE) 9 = .ok ⟨.str, 1, 16, [.str []], false, false⟩ := rfl
  have e3 : ti (Env.T vE) 5 = .ok ⟨.int .u8, 1, 1, [.int .u8 0], false, false⟩ := rfl
  have hl' : (ofBytes s).length = n := by rw [ofBytes, List.length_map]; exact hl
  have hb : n.ble (ofBytes s).length = true := by rw [hl']; exact Nat.ble_eq_true_of_le (Nat.le_refl n)
  have ht : (ofBytes s).take n = ofBytes s := by rw [← hl', List.take_length]
  simp only [convertP, e1, e2, e3, ok_bind, isByte, pure_eq, planS, VM.outS, planO, readP, hg, cellsOf, List.drop_zero, hb, ht, bytesOf_bytes, bindO_ok]
end Go.Proofs.YtgaciccgmjcbmaaDoor.Vm
/- RelexNames: the law. (Printed by genRelexN.py.) -/
set_option maxRecDepth 100000
set_option linter.unusedSimpArgs false
set_option maxHeartbeats 8000000
namespace Go.Proofs.YtgaciccgmjcbmaaDoor.Vm
open Go Go.VM Go.Proofs Go.Lex

theorem n_relex_fail {s x : List UInt8} {f t e : Int} (hx : x.length ≤ 1000000) (h : doS s f t x = ([], e)) (he : e ≠ 0) {β : Type} (st : St) (K : Kv β) : callS (orc vE) 9 [.str s, .agg [.int .i64 f, .int .i64 t, .str x]] st K = K (.tup [.nils, .agg [.int .i64 ((0 : Nat) : Int), .int .i64 ((0 : Nat) : Int)], .int .i64 e]) st q0 := by
  have := relex_fail (s := s) f t hx (by rw [h]; exact he)
  rw [h] at this
  exact callS_bare st K rfl rfl rfl this
theorem n_relex_ok {s x o : List UInt8} {f t : Int} {A B : List (Nat × List UInt8)} {p q : Nat} (hx : x.length ≤ 1000000) (h : doS s f t x = (o, 0)) (h1 : tokens s = A) (h2 : tokens o = B) (h3 : headN A B = p) (h4 : tailN A B = q) :
    ∃ b, IsSl 2 b (B.map tok) ∧ ∀ {β : Type} (st : St) (K : Kv β), callS (orc vE) 9 [.str s, .agg [.int .i64 f, .int .i64 t, .str x]] st K = K (.tup [b, .agg [.int .i64 (p : Int), .int .i64 (q : Int)], .int .i64 0]) st q0 := by
  obtain ⟨b, hb, hs⟩ := relex_ok (s := s) f t hx (by rw [h])
  rw [h] at hb hs
  rw [h1, h2, h3, h4] at hb
  rw [h2] at hs
  exact ⟨b, hs, fun st K => callS_bare st K rfl rfl rfl hb⟩
theorem n_lv (st : St) (a b : Nat) (h : st.ro ≤ st.h) : ∃ st', st'.get st.h = .ok (.cells 29 [.int .i64 (a : Int), .int .i64 (b : Int)]) ∧ Keeps st st' (fun _ => False) ∧ st'.ro ≤ st'.h ∧ st'.h = st.h + 1 ∧ ∀ {β : Type} (K : Kv β), storeS (orc vE) 2 (AV.mp st.h 0) (.agg [.int .i64 (a : Int), .int .i64 (b : Int)]) [.int .i64 (a : Int), .int .i64 (b : Int)] (st.add (.cells 29 [.int .i64 0, .int .i64 0])) K = K VM.undef st' ⟨[st.h], .wrote st.h (.cells 29 (splice [.int .i64 0, .int .i64 0] 0 [.int .i64 (a : Int), .int .i64 (b : Int)]))⟩ := by
  obtain ⟨st', g, k1, n, e⟩ := local_var2 (O := orc vE) (st := st) (t := 29) (z := 2) (old := [.int .i64 0, .int .i64 0]) (cs := [.int .i64 (a : Int), .int .i64 (b : Int)]) (.agg [.int .i64 (a : Int), .int .i64 (b : Int)]) rfl rfl h
  exact ⟨st', g, k1, by have := k1.ro; omega, n, fun K => e K⟩
theorem law_names : (orc vE).bare 6 [] = some (.bool true) := by
  refine bare_of rfl (g6_eq.trans ?_)
  obtain ⟨n, hn, hn1⟩ : ∃ n : Nat, (n : Int) = 65536 ∧ n = 65536 := ⟨65536, rfl, rfl⟩
  have hle : n ≤ 1000000 := by omega
  have mk : ∀ {β : Type} (st : St) (K : Kv β), planS (orc vE) (makeSliceP (Env.T vE) 46 (.int .i64 65536) (.int .i64 65536)) st K = K (.ms st.h 0 1 n n) (st.add (.cells 5 (ofBytes (List.replicate n 0)))) ⟨[], .made st.h (.cells 5 (ofBytes (List.replicate n 0)))⟩ := fun st K => by
    rw [← hn, make_ms (by omega) hle, planS_new]
  obtain ⟨b1, hs1, c1⟩ := n_relex_ok (s := [108, 101, 116, 32, 120, 32, 61, 32, 49]) (x := [121, 32, 122]) (o := [108, 101, 116, 32, 121, 32, 122, 32, 61, 32, 49]) (f := 4) (t := 5) (A := [(3, [108, 101, 116]), (1, [32]), (4, [120]), (1, [32]), (8, [61]), (1, [32]), (5, [49])]) (B := [(3, [108, 101, 116]), (1, [32]), (4, [121]), (1, [32]), (4, [122]), (1, [32]), (8, [61]), (1, [32]), (5, [49])]) (p := 2) (q := 4) (by decide) (by decide +kernel) (by decide +kernel) (by decide +kernel) (by decide +kernel) (by decide +kernel)
  obtain ⟨b2, hs2, c2⟩ := n_relex_ok (s := [108, 101, 116, 32, 120, 32, 61, 32, 49]) (x := [40, 42]) (o := [40, 42, 108, 101, 116, 32, 120, 32, 61, 32, 49]) (f := 0) (t := 0) (A := [(3, [108, 101, 116]), (1, [32]), (4, [120]), (1, [32]), (8, [61]), (1, [32]), (5, [49])]) (B := [(9, [40, 42, 108, 101, 116, 32, 120, 32, 61, 32, 49])]) (p := 0) (q := 0) (by decide) (by decide +kernel) (by decide +kernel) (by decide +kernel) (by decide +kernel) (by decide +kernel)
  have c3 := fun {β : Type} (st : St) (K : Kv β) => n_relex_fail (s := [108, 101, 116, 32, 120, 32, 61, 32, 49]) (x := []) (f := 9) (t := 3) (e := 1) (by decide) (by decide +kernel) (by decide) st K
  have c4 := fun {β : Type} (st : St) (K : Kv β) => n_relex_fail (s := [108, 101, 116, 32, 120, 32, 61, 32, 49]) (x := []) (f := 0) (t := 10) (e := 1) (by decide) (by decide +kernel) (by decide) st K
  have c5 := fun {β : Type} (st : St) (K : Kv β) => n_relex_fail (s := [108, 101, 116, 32, 120, 32, 61, 32, 49]) (x := []) (f := (-1)) (t := 1) (e := 1) (by decide) (by decide +kernel) (by decide) st K
  have c6 := fun {β : Type} (st : St) (K : Kv β) => n_relex_fail (s := [108, 101, 116, 32, 120, 32, 61, 32, 49]) (x := [255]) (f := 1) (t := 1) (e := 4) (by decide) (by decide +kernel) (by decide) st K
  have c7 := fun {β : Type} (st : St) (K : Kv β) => n_relex_fail (s := [255]) (x := []) (f := 0) (t := 1) (e := 4) (by decide) (by decide +kernel) (by decide) st K
  obtain ⟨b13, hs13, c13⟩ := n_relex_ok (s := [49, 46, 53, 101, 43]) (x := [55]) (o := [49, 46, 53, 101, 43, 55]) (f := 5) (t := 5) (A := [(6, [49, 46, 53]), (4, [101]), (8, [43])]) (B := [(6, [49, 46, 53, 101, 43, 55])]) (p := 0) (q := 0) (by decide) (by decide +kernel) (by decide +kernel) (by decide +kernel) (by decide +kernel) (by decide +kernel)
  have hZ : (List.replicate n (0 : UInt8)).length = n := List.length_replicate
  generalize hZe : List.replicate n (0 : UInt8) = Z at mk hZ
  have dZ : doS [108, 101, 116, 32, 120, 32, 61, 32, 49] 0 0 Z = ([], 40) := by
    have ho : okS (outE [108, 101, 116, 32, 120, 32, 61, 32, 49] 0 0 Z) = 40 := by
      unfold okS
      rw [if_pos]
      show 65536 < (([108, 101, 116, 32, 120, 32, 61, 32, 49] : List UInt8).take 0 ++ Z ++ ([108, 101, 116, 32, 120, 32, 61, 32, 49] : List UInt8).drop 0).length
      simp; omega
    have h1 : okS [108, 101, 116, 32, 120, 32, 61, 32, 49] = 0 := by decide +kernel
    show (if okS [108, 101, 116, 32, 120, 32, 61, 32, 49] ≠ 0 then _ else if _ then _ else if okS (outE [108, 101, 116, 32, 120, 32, 61, 32, 49] 0 0 Z) ≠ 0 then _ else _) = _
    rw [if_neg (by rw [h1]; decide), if_neg (by decide), ho]
    rfl
  have c8 := fun {β : Type} (st : St) (K : Kv β) => n_relex_fail (s := [108, 101, 116, 32, 120, 32, 61, 32, 49]) (x := Z) (f := 0) (t := 0) (e := 40) (by omega) dZ (by decide) st K
  obtain ⟨y9, hy9, _⟩ := row_ok (s := [108, 101, 116, 32, 120, 32, 61, 32, 49]) (x := .sl 3 ([((0 : Int), (3 : Int), ([] : List UInt8)), ((0 : Int), (99 : Int), ([] : List UInt8))].map edA) .shut) (es := [((0 : Int), (3 : Int), ([] : List UInt8)), ((0 : Int), (99 : Int), ([] : List UInt8))]) (IsSl.shut (by simp)) (by decide)
  have r9 : rowS [108, 101, 116, 32, 120, 32, 61, 32, 49] [((0 : Int), (3 : Int), ([] : List UInt8)), ((0 : Int), (99 : Int), ([] : List UInt8))] = ([], 1, 1) := by decide +kernel
  rw [r9] at hy9
  have hy9 : (orc vE).bare 13 [.str [108, 101, 116, 32, 120, 32, 61, 32, 49], .sl 3 [.agg [.int .i64 0, .int .i64 3, .str []], .agg [.int .i64 0, .int .i64 99, .str []]] .shut] = _ := hy9
  have c9 := fun {β : Type} (st : St) (K : Kv β) => callS_bare st K rfl rfl rfl hy9
  obtain ⟨y10, hy10, _⟩ := row_ok (s := [255]) (x := .nils) (es := []) IsSl.nils (by simp)
  have r10 : rowS [255] [] = ([], 0, 4) := by decide +kernel
  rw [r10] at hy10
  have c10 := fun {β : Type} (st : St) (K : Kv β) => callS_bare st K rfl rfl rfl hy10
  have hd11 := do_ok (s := [108, 101, 116, 32, 120, 32, 61, 32, 49]) (x := [97, 98, 99]) 4 5 (by decide)
  have d11 : doS [108, 101, 116, 32, 120, 32, 61, 32, 49] 4 5 [97, 98, 99] = ([108, 101, 116, 32, 97, 98, 99, 32, 61, 32, 49], 0) := by decide +kernel
  rw [d11] at hd11
  unfold edV at hd11
  have c11 := fun {β : Type} (st : St) (K : Kv β) => callS_bare st K rfl rfl rfl hd11
  -- the states
  obtain ⟨u1, gg1, k1, r1, n1, e1⟩ := n_lv (St.mk 0 0 Tr.leaf) 2 4 (Nat.le_refl _)
  obtain ⟨u2, gg2, k2, r2, n2, e2⟩ := n_lv u1 0 0 r1
  obtain ⟨u3, gg3, k3, r3, n3, e3⟩ := n_lv u2 0 0 r2
  obtain ⟨u4, gg4, k4, r4, n4, e4⟩ := n_lv u3 0 0 r3
  obtain ⟨u5, gg5, k5, r5, n5, e5⟩ := n_lv u4 0 0 r4
  obtain ⟨u6, gg6, k6, r6, n6, e6⟩ := n_lv u5 0 0 r5
  obtain ⟨u7, gg7, k7, r7, n7, e7⟩ := n_lv u6 0 0 r6
  have m8 := fun {β : Type} (K : Kv β) => mk u7 K
  have j8 : (u7.add (.cells 5 (ofBytes Z))).get u7.h = .ok (.cells 5 (ofBytes Z)) := St.get_add_new
  have k8 : Keeps u7 (u7.add (.cells 5 (ofBytes Z))) (fun _ => False) := Keeps.add _ _ _
  have r8 : (u7.add (.cells 5 (ofBytes Z))).ro ≤ (u7.add (.cells 5 (ofBytes Z))).h := by rw [St.add_ro, St.add_h]; omega
  generalize u7.add (.cells 5 (ofBytes Z)) = u8 at m8 j8 k8 r8
  have v8 := fun {β : Type} (K : Kv β) => conv_ms j8 hZ K
  obtain ⟨u9, gg9, k9, r9', n9, e9⟩ := n_lv u8 0 0 r8
  have m10 := fun {β : Type} (K : Kv β) => mk u9 K
  have j10 : (u9.add (.cells 5 (ofBytes Z))).get u9.h = .ok (.cells 5 (ofBytes Z)) := St.get_add_new
  have k10 : Keeps u9 (u9.add (.cells 5 (ofBytes Z))) (fun _ => False) := Keeps.add _ _ _
  have h10 : (u9.add (.cells 5 (ofBytes Z))).h = u9.h + 1 := rfl
  generalize u9.add (.cells 5 (ofBytes Z)) = u10 at m10 j10 k10 h10
  have hne : ∀ j : Nat, j ≤ 1 → j ≠ u9.h := by
    have := k8.h
    intro j hj
    have h0 : u1.h = 1 := n1
    omega
  obtain ⟨u11, eL, gg11, k11⟩ := many_loop (id := u9.h) (T := 5) hle n 0 [] u10 (by omega) rfl (by rw [List.nil_append, hZe]; exact j10) (by rw [k10.ro]; exact r9')
  have eL : loopO (g6_L1 (.ms u9.h 0 1 n n)) ([.int .i64 0], u10) = some (0, [], u11) := eL
  rw [List.nil_append] at gg11
  have hM := alt_len n 0
  have hMv := valid_asc _ (alt_asc n 0)
  generalize alt n 0 = M at gg11 hM hMv
  have v11 := fun {β : Type} (K : Kv β) => conv_ms gg11 hM K
  have r11 : u11.ro ≤ u11.h := by have := k11.ro; have := k10.ro; have := k11.h; omega
  have h11 : u9.h ≠ u11.h := by have := k11.h; omega
  have dM : doS M 65536 65536 [98] = ([], 40) := by
    have ho : okS (outE M 65536 65536 [98]) = 40 := by
      unfold okS
      rw [if_pos]
      show 65536 < (M.take 65536 ++ [98] ++ M.drop 65536).length
      rw [List.length_append, List.length_append, List.length_take, List.length_drop, List.length_singleton]; omega
    have h1 : okS M = 0 := okS_of (by omega) hMv
    show (if okS M ≠ 0 then _ else if (65536 : Int) < 0 ∨ (65536 : Int) > 65536 ∨ (65536 : Int) > (M.length : Int) then _ else if okS (outE M 65536 65536 [98]) ≠ 0 then _ else _) = _
    rw [if_neg (by rw [h1]; decide), if_neg (by omega), ho]
    rfl
  have c12 := fun {β : Type} (st : St) (K : Kv β) => n_relex_fail (s := M) (x := [98]) (f := 65536) (t := 65536) (e := 40) (by decide) dM (by decide) st K
  obtain ⟨u12, gg12, k12, r12, n12, e12⟩ := n_lv u11 0 0 r11
  obtain ⟨u13, gg13, k13, r13, n13, e13⟩ := n_lv u12 0 0 r12
  have no : ∀ j : Nat, ¬ (fun _ : Nat => False) j := fun _ h => h
  have G1 := k13.old _ _ (fun h => h) (k12.old _ _ (fun h => h) (k11.old _ _ (hne 0 (by omega)) (k10.old _ _ (fun h => h) (k9.old _ _ (fun h => h) (k8.old _ _ (fun h => h) (k7.old _ _ (fun h => h) (k6.old _ _ (fun h => h) (k5.old _ _ (fun h => h) (k4.old _ _ (fun h => h) (k3.old _ _ (fun h => h) (k2.old _ _ (fun h => h) gg1)))))))))))
  have hu1 : u1.h ≤ 1 := Nat.le_of_eq n1
  have G2 := k13.old _ _ (fun h => h) (k12.old _ _ (fun h => h) (k11.old _ _ (hne u1.h hu1) (k10.old _ _ (fun h => h) (k9.old _ _ (fun h => h) (k8.old _ _ (fun h => h) (k7.old _ _ (fun h => h) (k6.old _ _ (fun h => h) (k5.old _ _ (fun h => h) (k4.old _ _ (fun h => h) (k3.old _ _ (fun h => h) gg2))))))))))
  have a1 : ∀ r, apart ⟨r, .kept⟩ ⟨[], .kept⟩ = true := fun _ => rfl
  have a2 : ∀ o, apart ⟨[u9.h], .kept⟩ ⟨[], .made u11.h o⟩ = true := fun o => by
    show (![u9.h].contains u11.h) = true
    simp [h11.symm]
  have a3 : ∀ (i : Nat) (o : VM.Obj), apart ⟨[], .kept⟩ ⟨[], .made i o⟩ = true := fun _ _ => rfl
  have a4 : ∀ (i : Nat) (o : VM.Obj), apart ⟨[], .kept⟩ ⟨[i], .wrote i o⟩ = true := fun _ _ => rfl
  have hi2 := fun {β : Type} (st : St) (K : AV → List Nat → Option β) => toks_idx hs2 (j := 0) rfl st K
  have hi2 : ∀ {β : Type} (st : St) (K : AV → List Nat → Option β), idxA 2 b2 0 st K = K (.ip [.int .u8 9, .str [40, 42, 108, 101, 116, 32, 120, 32, 61, 32, 49]]) [] := fun st K => hi2 st K
  have hl2 : ∀ {β : Type} (K : Nat → Option β), lenS b2 K = K 1 := fun K => hs2.len K
  have hl13 : ∀ {β : Type} (K : Nat → Option β), lenS b13 K = K 1 := fun K => hs13.len K
  have q1 : (((1 : Nat) : Int) = 1) := rfl
  have q24 : (((((2 : Nat) : Int)) == 2) && ((((4 : Nat) : Int)) == 4)) = true := rfl
  have q00 : (((((0 : Nat) : Int)) == 0) && ((((0 : Nat) : Int)) == 0)) = true := rfl
  unfold g6
  simp only [edit_ok, unA_agg, unc_cons, asI_int, asS_str, un0_nil, c1, c2, c3, c4, c5, c6, c7, unT_tup, nthS_zero, nthS_one, nthS_two, letSt_eq, e1, e2, e3, e4, e5, e6, e7, m8, v8, letV_eq]
  simp only [c8, edit_ok, unA_agg, unc_cons, asI_int, asS_str, un0_nil, unT_tup, nthS_zero, nthS_one, nthS_two, letSt_eq, e9, c9, c10, c11, m10]
  rw [eL]
  simp only [bindO_ok, un0_nil, v11, asS_str, letV_eq, q0, a1, Bool.and_self, chk_true, edit_ok, unA_agg, unc_cons, asI_int, c12, unT_tup, nthS_zero, nthS_one, nthS_two, letSt_eq, a2, a3, a4, e12]
  simp only [ifB_bne, if_true, edit_ok, unA_agg, unc_cons, asI_int, c13, unT_tup, nthS_zero, nthS_one, nthS_two, un0_nil, letSt_eq, e13, hl13, if_pos q1, bindO_ok, asB_bool, show ((0 : Int) != 0) = false from rfl, ifB_false, loadS_mp G1, loadS_mp G2, List.drop_zero, takeO2, eql_kept, q24, q00, ifB_true, ifB_beq, hl2, hi2, fldA_ip, loadS_ip, takeO_one, asS_str, beq_self_list, call_awake]
end Go.Proofs.YtgaciccgmjcbmaaDoor.Vm
/- Edits: arguments. -/
set_option maxRecDepth 100000
namespace Go.Proofs.YtgaciccgmjcbmaaDoor.Vm
open Go Go.VM Go.Proofs

def lawS : List TypeId := [9, 3, 23, 25, 41]
theorem lawS_ok : ∀ t, inS lawS t = true → okTy Tryd.prog lawS t = true := by
  intro t ht
  have : t ∈ lawS := by
    obtain ⟨u, hu, e⟩ := List.any_eq_true.1 ht
    rw [← Nat.eq_of_beq_eq_true e]; exact hu
  exact List.all_eq_true.1 (show (lawS.all fun t => okTy Tryd.prog lawS t) = true by kernel_rfl) t this
theorem av_str {n t : Nat} {cs : List AV} (hu : Tryd.prog.underlying t = some .string) (h : AvOf Tryd.prog n t cs) : ∃ s, cs = [.str s] ∧ s.length ≤ maxLen := by
  cases n with
  | zero => cases h
  | succ n => simp only [AvOf, hu] at h; exact h
theorem av_int {n t : Nat} {k : IntKind} {cs : List AV} (hu : Tryd.prog.underlying t = some (.int k)) (h : AvOf Tryd.prog n t cs) : ∃ m, cs = [.int k m] ∧ k.min ≤ m ∧ m ≤ k.max := by
  cases n with
  | zero => cases h
  | succ n => simp only [AvOf, hu] at h; exact h
theorem sl_of {n t e : Nat} {cs : List AV} {Q : AV → Prop} (hu : Tryd.prog.underlying t = some (.slice e)) (h : AvOf Tryd.prog n t cs) (hQ : ∀ a, AvOf Tryd.prog (n - 1) e a → Q (mkV (isSt Tryd.prog e) a)) :
    ∃ x es, cs = [x] ∧ IsSl (Tryd.prog.cellsOf e) x es ∧ ∀ v ∈ es, Q v := by
  cases n with
  | zero => cases h
  | succ n =>
    simp only [AvOf, hu] at h
    rcases h with rfl | rfl | ⟨L, rfl, hl, hL⟩
    · exact ⟨_, [], rfl, IsSl.nils, by simp⟩
    · exact ⟨_, [], rfl, IsSl.emp, by simp⟩
    · refine ⟨_, _, rfl, IsSl.wide (by rw [List.length_map]; simpa [maxLen] using hl), fun v hv => ?_⟩
      obtain ⟨a, ha, rfl⟩ := List.mem_map.1 hv
      exact hQ a (hL a ha)
theorem span_of {n : Nat} {cs : List AV} (h : AvOf Tryd.prog n 23 cs) : ∃ x y, cs = [.int .i64 x, .int .i64 y] := by
  cases n with
  | zero => cases h
  | succ n =>
    simp only [AvOf, Tryd.underlying23] at h
    obtain ⟨a0, b0, rfl, h0, a1, b1, rfl, h1, rfl⟩ := h
    obtain ⟨x, rfl, _⟩ := av_int Tryd.underlying3 h0
    obtain ⟨y, rfl, _⟩ := av_int Tryd.underlying3 h1
    exact ⟨x, y, rfl⟩
theorem edit_of {n : Nat} {cs : List AV} (h : AvOf Tryd.prog n 25 cs) : ∃ e : Ed, cs = [.int .i64 e.1, .int .i64 e.2.1, .str e.2.2] := by
  cases n with
  | zero => cases h
  | succ n =>
    simp only [AvOf, Tryd.underlying25] at h
    obtain ⟨a0, b0, rfl, h0, a1, b1, rfl, h1, rfl⟩ := h
    obtain ⟨x, y, rfl⟩ := span_of h0
    obtain ⟨s, rfl, _⟩ := av_str Tryd.underlying9 h1
    exact ⟨(x, y, s), rfl⟩
theorem edits_of : ∀ {es : List AV}, (∀ v ∈ es, ∃ e : Ed, v = edA e) → ∃ l : List Ed, es = l.map edA
  | [], _ => ⟨[], rfl⟩
  | v :: vs, h => by
    obtain ⟨d, rfl⟩ := h v (by simp)
    obtain ⟨ds, rfl⟩ := edits_of (es := vs) fun u hu => h u (List.mem_cons_of_mem _ hu)
    exact ⟨d :: ds, rfl⟩
end Go.Proofs.YtgaciccgmjcbmaaDoor.Vm
