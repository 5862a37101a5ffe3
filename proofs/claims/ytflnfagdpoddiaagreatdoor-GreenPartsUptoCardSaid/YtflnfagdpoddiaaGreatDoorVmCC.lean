/-
  (A part of the proof: LexF, LexG, LexH, LexI, LexJ, LexK, LexLa, LexJo, GreenN, GreenA, GreenB, GreenC, GreenD, GreenE, GreenF, GreenH, GreenI, GreenJ, FL19, FL28, GreenK, GreenL, FL4.)
-/
import Derived.Test.YtflnfagdpoddiaaGreatDoorVmCB
import Derived.Test.YtflnfagdpoddiaaGreatDoorVmAJ
import Derived.Test.YtflnfagdpoddiaaGreatDoorVmBF
import Derived.Test.YtflnfagdpoddiaaGreatDoorVmAI
set_option maxRecDepth 100000
set_option linter.unusedSimpArgs false
namespace Go.Proofs.YtflnfagdpoddiaaGreatDoor.Vm
open Go Go.VM Go.Proofs Go.Lex

def goodT (t : List UInt8) : Prop := 0 ≤ bitsI t ∧ putN (bitsI t).toNat = t
theorem good1 (a : UInt8) : goodT [a] ↔ a.toNat < 128 := by
  have e : bitsI [a] = (a.toNat : Int) := rfl
  unfold goodT
  rw [e, Int.toNat_natCast, put1]
  exact ⟨fun h => h.2, fun h => ⟨by omega, h⟩⟩
theorem good2 (a b : UInt8) : goodT [a, b] ↔ (194 ≤ a.toNat ∧ a.toNat ≤ 223) ∧ ¬ (b.toNat < 128 ∨ 191 < b.toNat) := by
  have e : bitsI [a, b] = ((a.toNat : Int) - 192) * 64 + b.toNat - 128 := rfl
  unfold goodT
  rw [e]
  constructor
  · rintro ⟨h0, h⟩
    exact (put2 (by omega)).1 h
  · intro h
    have h0 : 0 ≤ ((a.toNat : Int) - 192) * 64 + b.toNat - 128 := by omega
    exact ⟨h0, (put2 (by omega)).2 h⟩
theorem good3 (a b c : UInt8) : goodT [a, b, c] ↔ (224 ≤ a.toNat ∧ a.toNat ≤ 239) ∧ ¬ (b.toNat < 128 ∨ 191 < b.toNat ∨ c.toNat < 128 ∨ 191 < c.toNat ∨ (a.toNat = 224 ∧ b.toNat < 160) ∨ (a.toNat = 237 ∧ 159 < b.toNat)) := by
  have e : bitsI [a, b, c] = (((a.toNat : Int) - 224) * 64 + b.toNat - 128) * 64 + c.toNat - 128 := rfl
  unfold goodT
  rw [e]
  constructor
  · rintro ⟨h0, h⟩
    exact (put3 (by omega)).1 h
  · intro h
    have h0 : 0 ≤ (((a.toNat : Int) - 224) * 64 + b.toNat - 128) * 64 + c.toNat - 128 := by omega
    exact ⟨h0, (put3 (by omega)).2 h⟩
theorem good4 (a b c d : UInt8) : goodT [a, b, c, d] ↔ (240 ≤ a.toNat ∧ a.toNat ≤ 244) ∧ ¬ (b.toNat < 128 ∨ 191 < b.toNat ∨ c.toNat < 128 ∨ 191 < c.toNat ∨ d.toNat < 128 ∨ 191 < d.toNat ∨ (a.toNat = 240 ∧ b.toNat < 144) ∨ (a.toNat = 244 ∧ 143 < b.toNat)) := by
  have e : bitsI [a, b, c, d] = ((((a.toNat : Int) - 240) * 64 + b.toNat - 128) * 64 + c.toNat - 128) * 64 + d.toNat - 128 := rfl
  unfold goodT
  rw [e]
  constructor
  · rintro ⟨h0, h⟩
    exact (put4 (by omega)).1 h
  · intro h
    have h0 : 0 ≤ ((((a.toNat : Int) - 240) * 64 + b.toNat - 128) * 64 + c.toNat - 128) * 64 + d.toNat - 128 := by omega
    exact ⟨h0, (put4 (by omega)).2 h⟩
theorem bits_bound : ∀ (l : List UInt8), l.length ≤ 4 → bitsI l ≤ 100000000
  | [], _ => by simp [bitsI]
  | [a], _ => by have := UInt8.toNat_lt a; simp only [bitsI]; omega
  | [a, b], _ => by
    have := UInt8.toNat_lt a; have := UInt8.toNat_lt b
    have e : bitsI [a, b] = ((a.toNat : Int) - 192) * 64 + b.toNat - 128 := rfl
    omega
  | [a, b, c], _ => by
    have := UInt8.toNat_lt a; have := UInt8.toNat_lt b; have := UInt8.toNat_lt c
    have e : bitsI [a, b, c] = (((a.toNat : Int) - 224) * 64 + b.toNat - 128) * 64 + c.toNat - 128 := rfl
    omega
  | [a, b, c, d], _ => by
    have := UInt8.toNat_lt a; have := UInt8.toNat_lt b; have := UInt8.toNat_lt c; have := UInt8.toNat_lt d
    have e : bitsI [a, b, c, d] = ((((a.toNat : Int) - 240) * 64 + b.toNat - 128) * 64 + c.toNat - 128) * 64 + d.toNat - 128 := rfl
    omega
  | _ :: _ :: _ :: _ :: _ :: _, h => by simp at h
section
variable {s : List UInt8} (st : St) {n : Nat} (h1 : 1 ≤ n) (h4 : n ≤ 4) (hl : n ≤ s.length)
include h1 h4 hl
theorem rune_calls : (s.take n ≠ [] ∧ (s.take n).length ≤ 4) ∧ (∀ {β : Type} (st : St) (K : Kv β), callS (orc vE) 98 [.str (s.take n)] st K = K (.int .i64 (bitsI (s.take n))) st q0) := by
  have hlen : (s.take n).length = n := by rw [List.length_take]; omega
  have hne : s.take n ≠ [] := by
    intro e
    rw [e] at hlen
    simp at hlen; omega
  exact ⟨⟨hne, by omega⟩, fun st K => callS_bare st K rfl rfl rfl (bits_ok hne (by omega))⟩
theorem rune_yes (hg : goodT (s.take n)) : loopO (g77_L1 s) ([.int .i64 0, .int .i64 0, .int .i64 (n : Int)], st) = some (1, [.int .i64 (bitsI (s.take n)), .int .i64 (n : Int)], st) := by
  obtain ⟨⟨hne, h4'⟩, hb⟩ := rune_calls h1 h4 hl
  have hbd := bits_bound (s.take n) h4'
  obtain ⟨g0, g1⟩ := hg
  obtain ⟨k, hk⟩ := Int.eq_ofNat_of_zero_le g0
  have hp : ∀ {β : Type} (st : St) (K : Kv β), callS (orc vE) 99 [.int .i64 (bitsI (s.take n))] st K = K (.str (s.take n)) st q0 := fun st K => by
    rw [hk, callS_bare st K rfl rfl rfl (put_ok' k (by omega))]
    rw [hk] at g1
    rw [show (s.take n) = putN k from g1.symm]
  refine loopO_inr ?_
  have q1 : (n : Int) ≤ 4 := by omega
  have q2 : (n : Int) ≤ (s.length : Int) := by omega
  simp only [g77_L1, unc_cons, asI_int, un0_nil, ifB_decide, if_pos q1, decide_eq_true q2, bindO_ok, asB_bool, ifB_true, uptoS_nat hl, List.drop_zero, letV_eq, hb, if_pos (show bitsI (s.take n) ≥ 0 from g0), hp, asS_str, apart_kept, apart_kept2, Bool.and_self, chk_true, beq_self_eq_true]
theorem rune_no (hg : ¬ goodT (s.take n)) : loopO (g77_L1 s) ([.int .i64 0, .int .i64 0, .int .i64 (n : Int)], st) = loopO (g77_L1 s) ([.int .i64 0, .int .i64 0, .int .i64 ((n + 1 : Nat) : Int)], st) := by
  obtain ⟨⟨hne, h4'⟩, hb⟩ := rune_calls h1 h4 hl
  have hbd := bits_bound (s.take n) h4'
  have q1 : (n : Int) ≤ 4 := by omega
  have q2 : (n : Int) ≤ (s.length : Int) := by omega
  refine loopO_inl ?_
  by_cases g0 : bitsI (s.take n) ≥ 0
  · obtain ⟨k, hk⟩ := Int.eq_ofNat_of_zero_le g0
    have hne2 : (putN k == s.take n) = false := by
      rw [beq_eq_false_iff_ne]
      intro e
      exact hg ⟨g0, by rw [hk]; exact e⟩
    have hp : ∀ {β : Type} (st : St) (K : Kv β), callS (orc vE) 99 [.int .i64 (bitsI (s.take n))] st K = K (.str (putN k)) st q0 := fun st K => by
      rw [hk, callS_bare st K rfl rfl rfl (put_ok' k (by omega))]
    simp only [g77_L1, unc_cons, asI_int, un0_nil, ifB_decide, if_pos q1, decide_eq_true q2, bindO_ok, asB_bool, ifB_true, uptoS_nat hl, List.drop_zero, letV_eq, hb, if_pos g0, hp, asS_str, apart_kept, apart_kept2, Bool.and_self, chk_true, hne2, ifB_false, wrapA1 (show n + 1 ≤ 9223372036854775807 by omega)]
  · simp only [g77_L1, unc_cons, asI_int, un0_nil, ifB_decide, if_pos q1, decide_eq_true q2, bindO_ok, asB_bool, ifB_true, uptoS_nat hl, List.drop_zero, letV_eq, hb, if_neg g0, ifB_false, wrapA1 (show n + 1 ≤ 9223372036854775807 by omega)]
end
theorem rune_end {s : List UInt8} (st : St) {n : Nat} (h : 4 < n ∨ s.length < n) : loopO (g77_L1 s) ([.int .i64 0, .int .i64 0, .int .i64 (n : Int)], st) = some (0, [.int .i64 0, .int .i64 0], st) := by
  refine loopO_inr ?_
  by_cases q1 : (n : Int) ≤ 4
  · have q2 : ¬ (n : Int) ≤ (s.length : Int) := by omega
    simp only [g77_L1, unc_cons, asI_int, un0_nil, ifB_decide, if_pos q1, decide_eq_false q2, bindO_ok, asB_bool, ifB_false]
  · simp only [g77_L1, unc_cons, asI_int, un0_nil, ifB_decide, if_neg q1, bindO_ok, asB_bool, ifB_false]
theorem good_pos {t : List UInt8} (h : goodT t) : 0 ≤ bitsI t := h.1
theorem rune_loop {s : List UInt8} (hne : s ≠ []) (st : St) : (szL s = 0 ∧ loopO (g77_L1 s) ([.int .i64 0, .int .i64 0, .int .i64 ((1 : Nat) : Int)], st) = some (0, [.int .i64 0, .int .i64 0], st)) ∨
    (szL s ≠ 0 ∧ ∃ p : Int, 0 ≤ p ∧ loopO (g77_L1 s) ([.int .i64 0, .int .i64 0, .int .i64 ((1 : Nat) : Int)], st) = some (1, [.int .i64 p, .int .i64 (szL s : Int)], st)) := by
  cases s with
  | nil => exact absurd rfl hne
  | cons a s1 =>
  have l1 : 1 ≤ (a :: s1).length := by simp
  by_cases g1 : a.toNat < 128
  · have gg : goodT ((a :: s1).take 1) := (good1 a).2 g1
    have hz : szL (a :: s1) = 1 := by
      show szN _ a.toNat _ _ _ = 1
      unfold szN; rw [if_pos g1]
    exact .inr ⟨by omega, _, good_pos gg, by rw [hz]; exact rune_yes st (Nat.le_refl _) (by omega) l1 gg⟩
  have n1 := rune_no st (n := 1) (Nat.le_refl _) (by omega) l1 (fun h => g1 ((good1 a).1 h))
  rw [n1]
  have hsz : szL (a :: s1) = szN (a :: s1).length a.toNat (s1.getD 0 0).toNat (s1.getD 1 0).toNat (s1.getD 2 0).toNat := rfl
  unfold szN at hsz
  rw [if_neg g1] at hsz
  cases s1 with
  | nil =>
    refine .inl ⟨?_, rune_end st (.inr (by simp))⟩
    rw [hsz]
    repeat' split
    all_goals first | rfl | (exfalso; simp at *; done)
  | cons b s2 =>
  have l2 : 2 ≤ (a :: b :: s2).length := by simp
  by_cases g2 : (194 ≤ a.toNat ∧ a.toNat ≤ 223) ∧ ¬ (b.toNat < 128 ∨ 191 < b.toNat)
  · have gg : goodT ((a :: b :: s2).take 2) := (good2 a b).2 g2
    have hz : szL (a :: b :: s2) = 2 := by
      rw [hsz, if_pos g2.1, if_neg]
      intro h
      rcases h with h | h
      · omega
      · exact g2.2 h
    exact .inr ⟨by omega, _, good_pos gg, by rw [hz]; exact rune_yes st (by omega) (by omega) l2 gg⟩
  have n2 := rune_no st (n := 2) (by omega) (by omega) l2 (fun h => g2 ((good2 a b).1 h))
  rw [n2]
  have hb2 : (194 ≤ a.toNat ∧ a.toNat ≤ 223) → szL (a :: b :: s2) = 0 := by
    intro h
    rw [hsz, if_pos h, if_pos]
    have := fun k => g2 ⟨h, k⟩
    refine .inr ?_
    show b.toNat < 128 ∨ 191 < b.toNat
    omega
  cases s2 with
  | nil =>
    refine .inl ⟨?_, rune_end st (.inr (by simp))⟩
    by_cases h : 194 ≤ a.toNat ∧ a.toNat ≤ 223
    · exact hb2 h
    · rw [hsz, if_neg h]
      repeat' split
      all_goals first | rfl | (exfalso; simp at *; done)
  | cons c s3 =>
  have l3 : 3 ≤ (a :: b :: c :: s3).length := by simp
  by_cases g3 : (224 ≤ a.toNat ∧ a.toNat ≤ 239) ∧ ¬ (b.toNat < 128 ∨ 191 < b.toNat ∨ c.toNat < 128 ∨ 191 < c.toNat ∨ (a.toNat = 224 ∧ b.toNat < 160) ∨ (a.toNat = 237 ∧ 159 < b.toNat))
  · have gg : goodT ((a :: b :: c :: s3).take 3) := (good3 a b c).2 g3
    have hz : szL (a :: b :: c :: s3) = 3 := by
      rw [hsz, if_neg (by omega), if_pos g3.1, if_neg]
      intro h
      rcases h with h | h
      · omega
      · exact g3.2 h
    exact .inr ⟨by omega, _, good_pos gg, by rw [hz]; exact rune_yes st (by omega) (by omega) l3 gg⟩
  have n3 := rune_no st (n := 3) (by omega) (by omega) l3 (fun h => g3 ((good3 a b c).1 h))
  rw [n3]
  have hb3 : (224 ≤ a.toNat ∧ a.toNat ≤ 239) → szL (a :: b :: c :: s3) = 0 := by
    intro h
    rw [hsz, if_neg (by omega), if_pos h, if_pos]
    refine .inr ?_
    show b.toNat < 128 ∨ 191 < b.toNat ∨ c.toNat < 128 ∨ 191 < c.toNat ∨ (a.toNat = 224 ∧ b.toNat < 160) ∨ (a.toNat = 237 ∧ 159 < b.toNat)
    exact Classical.byContradiction fun k => g3 ⟨h, k⟩
  cases s3 with
  | nil =>
    refine .inl ⟨?_, rune_end st (.inr (by simp))⟩
    by_cases h : 194 ≤ a.toNat ∧ a.toNat ≤ 223
    · exact hb2 h
    · by_cases h3 : 224 ≤ a.toNat ∧ a.toNat ≤ 239
      · exact hb3 h3
      · rw [hsz, if_neg h, if_neg h3]
        repeat' split
        all_goals first | rfl | (exfalso; simp at *; done)
  | cons d s4 =>
  have l4 : 4 ≤ (a :: b :: c :: d :: s4).length := by simp
  by_cases g4 : (240 ≤ a.toNat ∧ a.toNat ≤ 244) ∧ ¬ (b.toNat < 128 ∨ 191 < b.toNat ∨ c.toNat < 128 ∨ 191 < c.toNat ∨ d.toNat < 128 ∨ 191 < d.toNat ∨ (a.toNat = 240 ∧ b.toNat < 144) ∨ (a.toNat = 244 ∧ 143 < b.toNat))
  · have gg : goodT ((a :: b :: c :: d :: s4).take 4) := (good4 a b c d).2 g4
    have hz : szL (a :: b :: c :: d :: s4) = 4 := by
      rw [hsz, if_neg (by omega), if_neg (by omega), if_pos g4.1, if_neg]
      intro h
      rcases h with h | h
      · omega
      · exact g4.2 h
    exact .inr ⟨by omega, _, good_pos gg, by rw [hz]; exact rune_yes st (by omega) (by omega) l4 gg⟩
  have n4 := rune_no st (n := 4) (by omega) (by omega) l4 (fun h => g4 ((good4 a b c d).1 h))
  rw [n4]
  refine .inl ⟨?_, rune_end st (.inl (by omega))⟩
  by_cases h : 194 ≤ a.toNat ∧ a.toNat ≤ 223
  · exact hb2 h
  · by_cases h3 : 224 ≤ a.toNat ∧ a.toNat ≤ 239
    · exact hb3 h3
    · rw [hsz, if_neg h, if_neg h3]
      by_cases h4 : 240 ≤ a.toNat ∧ a.toNat ≤ 244
      · rw [if_pos h4, if_pos]
        refine .inr ?_
        show b.toNat < 128 ∨ 191 < b.toNat ∨ c.toNat < 128 ∨ 191 < c.toNat ∨ d.toNat < 128 ∨ 191 < d.toNat ∨ (a.toNat = 240 ∧ b.toNat < 144) ∨ (a.toNat = 244 ∧ 143 < b.toNat)
        exact Classical.byContradiction fun k => g4 ⟨h4, k⟩
      · rw [if_neg h4]
theorem ref_rune {s : List UInt8} (hne : s ≠ []) : ∃ p : Int, (orc vE).bare 77 [.str s] = some (.tup [.int .i64 p, .int .i64 (chN s : Int)]) ∧ ((p < 0 ∧ szL s = 0) ∨ (0 ≤ p ∧ szL s ≠ 0)) := by
  have he : (s == []) = false := by simpa using hne
  rcases rune_loop hne (St.mk 0 0 Tr.leaf) with ⟨h, e⟩ | ⟨h, p, hp, e⟩
  · refine ⟨-1, bare_of rfl ((g77_eq _).trans ?_), .inl ⟨by omega, h⟩⟩
    have e : loopO (g77_L1 s) ([.int .i64 0, .int .i64 0, .int .i64 1], St.mk 0 0 Tr.leaf) = _ := e
    simp only [g77, asS_str, he, ifB_false, e, bindO_ok, unc_cons, asI_int, un0_nil, sel2_zero, chN, if_pos h]
    rfl
  · refine ⟨p, bare_of rfl ((g77_eq _).trans ?_), .inr ⟨hp, h⟩⟩
    have e : loopO (g77_L1 s) ([.int .i64 0, .int .i64 0, .int .i64 1], St.mk 0 0 Tr.leaf) = _ := e
    simp only [g77, asS_str, he, ifB_false, e, bindO_ok, unc_cons, asI_int, un0_nil, sel2_one, chN, if_neg h]
theorem valid_loop (st : St) : ∀ (n : Nat) (s : List UInt8), s.length ≤ n → loopO g62_L1 ([.bool false, .str s], st) = some (if validS s then (0, [.bool false], st) else (1, [.bool false], st))
  | n, [], _ => by
    refine loopO_inr ?_
    simp only [g62_L1, unc_cons, asB_bool, asS_str, un0_nil, show (!(([] : List UInt8) == [])) = false from rfl, ifB_false]
    rfl
  | 0, _ :: _, h => by simp at h
  | n + 1, c :: l, h => by
    obtain ⟨p, e, hp⟩ := ref_rune (s := c :: l) (by simp)
    have hc : ∀ {β : Type} (st : St) (K : Kv β), callS (orc vE) 77 [.str (c :: l)] st K = K (.tup [.int .i64 p, .int .i64 (chN (c :: l) : Int)]) st q0 := fun st K => callS_bare st K rfl rfl rfl e
    rw [validS_step (l := c :: l) (by simp)]
    rcases hp with ⟨h1, h2⟩ | ⟨h1, h2⟩
    · rw [if_pos h2]
      refine loopO_inr ?_
      simp only [g62_L1, unc_cons, asB_bool, asS_str, un0_nil, show (!((c :: l : List UInt8) == [])) = true from rfl, ifB_true, hc, unT_tup, nthS_zero, nthS_one, asI_int, ifB_decide, if_pos h1]
      rfl
    · rw [if_neg h2]
      have hz := szL_le (l := c :: l) (by simp)
      have hch : chN (c :: l) = szL (c :: l) := by unfold chN; rw [if_neg h2]
      have h1' : ¬ p < 0 := by omega
      rw [loopO_inl (s' := ([.bool false, .str ((c :: l).drop (szL (c :: l)))], st)), valid_loop st n _ (by rw [List.length_drop]; omega)]
      simp only [g62_L1, unc_cons, asB_bool, asS_str, un0_nil, show (!((c :: l : List UInt8) == [])) = true from rfl, ifB_true, hc, hch, unT_tup, nthS_zero, nthS_one, asI_int, ifB_decide, if_neg h1', uptoS_nat hz, List.take_length, letV_eq]
theorem ref_valid (s : List UInt8) : (orc vE).bare 62 [.str s] = some (.bool (validS s)) := by
  refine bare_of rfl ((g62_eq _).trans ?_)
  have e := valid_loop (St.mk 0 0 Tr.leaf) s.length s (Nat.le_refl _)
  simp only [g62, asS_str, e]
  cases validS s <;> simp [sel2_zero, sel2_one]
end Go.Proofs.YtflnfagdpoddiaaGreatDoor.Vm
set_option maxRecDepth 100000
set_option linter.unusedSimpArgs false
namespace Go.Proofs.YtflnfagdpoddiaaGreatDoor.Vm
open Go Go.VM Go.Proofs Go.Lex

theorem at_nil {s : List UInt8} {n : Nat} (h : s.drop n = []) : s.getD n 0 = 0 := by
  have := List.drop_eq_nil_iff.1 h
  rw [List.getD_eq_getElem?_getD, List.getElem?_eq_none this]; rfl
theorem at_cons {s l : List UInt8} {n : Nat} {c : UInt8} (h : s.drop n = c :: l) : s.getD n 0 = c := by
  rw [List.getD_eq_getElem?_getD, (drop_cons h).1]; rfl
theorem at_ok (s : List UInt8) (i : Nat) : (orc vE).bare 79 [.str s, .int .i64 (i : Int)] = some (.int .u8 ((s.getD i 0).toNat : Int)) := by
  refine bare_of rfl ((g79_eq _ _).trans ?_)
  have q : ¬ (i : Int) < 0 := by omega
  by_cases h : i < s.length
  · have h' : ¬ (i : Int) ≥ (s.length : Int) := by omega
    have e : s.getD i 0 = s[i] := by rw [List.getD_eq_getElem?_getD, List.getElem?_eq_getElem h]; rfl
    rw [e]
    simp only [g79, asS_str, asI_int, ifB_decide, if_neg q, if_neg h', bindO_ok, unc_cons, asB_bool, un0_nil, idxStr_nat h]
  · have h' : (i : Int) ≥ (s.length : Int) := by omega
    have e : s.getD i 0 = 0 := by rw [List.getD_eq_getElem?_getD, List.getElem?_eq_none (by omega)]; rfl
    rw [e]
    simp only [g79, asS_str, asI_int, ifB_decide, if_neg q, if_pos h', bindO_ok, unc_cons, asB_bool, un0_nil]
    rfl
theorem call_at {β : Type} (s : List UInt8) (i : Nat) (st : St) (K : Kv β) : callS (orc vE) 79 [.str s, .int .i64 (i : Int)] st K = K (.int .u8 ((s.getD i 0).toNat : Int)) st q0 := callS_bare st K rfl rfl rfl (at_ok s i)
theorem byte_beq (c d : UInt8) : ((c.toNat : Int) == (d.toNat : Int)) = (c == d) := by
  by_cases h : c = d
  · subst h; simp
  · rw [beq_eq_false_iff_ne.2 h, beq_eq_false_iff_ne.2 (byte_ne h)]
theorem rblank (c : UInt8) : (orc vE).bare 78 [.int .u8 (c.toNat : Int)] = some (.bool (isBlank c)) := by
  refine bare_of rfl ((g78_eq _).trans ?_)
  have b1 : ((c.toNat : Int) == 32) = (c == 32) := byte_beq c 32
  have b2 : ((c.toNat : Int) == 9) = (c == 9) := byte_beq c 9
  have b3 : ((c.toNat : Int) == 10) = (c == 10) := byte_beq c 10
  have b4 : ((c.toNat : Int) == 13) = (c == 13) := byte_beq c 13
  simp only [g78, asI_int, b1, b2, b3, b4, isBlank]
  cases c == 32 <;> cases c == 9 <;> cases c == 10 <;> rfl
theorem rlow (c : UInt8) : (orc vE).bare 82 [.int .u8 (c.toNat : Int)] = some (.bool (isLow c)) := by
  refine bare_of rfl ((g82_eq _).trans ?_)
  have b1 : decide ((c.toNat : Int) ≥ 97) = decide (97 ≤ c.toNat) := decide_eq_decide.2 (by omega)
  have b2 : decide ((c.toNat : Int) ≤ 122) = decide (c.toNat ≤ 122) := decide_eq_decide.2 (by omega)
  have b3 : ((c.toNat : Int) == 95) = (c == 95) := byte_beq c 95
  simp only [g82, asI_int, b1, b2, b3, isLow]
  cases decide (97 ≤ c.toNat) <;> cases decide (c.toNat ≤ 122) <;> rfl
theorem rdigit (c : UInt8) : (orc vE).bare 85 [.int .u8 (c.toNat : Int)] = some (.bool (isDig c)) := by
  refine bare_of rfl ((g85_eq _).trans ?_)
  have b1 : decide ((c.toNat : Int) ≥ 48) = decide (48 ≤ c.toNat) := decide_eq_decide.2 (by omega)
  have b2 : decide ((c.toNat : Int) ≤ 57) = decide (c.toNat ≤ 57) := decide_eq_decide.2 (by omega)
  simp only [g85, asI_int, b1, b2, isDig]
  cases decide (48 ≤ c.toNat) <;> cases decide (c.toNat ≤ 57) <;> rfl
theorem call_rblank {β : Type} (c : UInt8) (st : St) (K : Kv β) : callS (orc vE) 78 [.int .u8 (c.toNat : Int)] st K = K (.bool (isBlank c)) st q0 := callS_bare st K rfl rfl rfl (rblank c)
theorem call_rlow {β : Type} (c : UInt8) (st : St) (K : Kv β) : callS (orc vE) 82 [.int .u8 (c.toNat : Int)] st K = K (.bool (isLow c)) st q0 := callS_bare st K rfl rfl rfl (rlow c)
theorem call_rdigit {β : Type} (c : UInt8) (st : St) (K : Kv β) : callS (orc vE) 85 [.int .u8 (c.toNat : Int)] st K = K (.bool (isDig c)) st q0 := callS_bare st K rfl rfl rfl (rdigit c)
theorem rbehind (c : UInt8) : (orc vE).bare 83 [.int .u8 (c.toNat : Int)] = some (.bool (isBeh c)) := by
  refine bare_of rfl ((g83_eq _).trans ?_)
  have b1 : decide ((c.toNat : Int) ≥ 65) = decide (65 ≤ c.toNat) := decide_eq_decide.2 (by omega)
  have b2 : decide ((c.toNat : Int) ≤ 90) = decide (c.toNat ≤ 90) := decide_eq_decide.2 (by omega)
  have b3 : ((c.toNat : Int) == 39) = (c == 39) := byte_beq c 39
  simp only [g83, asI_int, b1, b2, b3, call_rlow, call_rdigit, asB_bool, isBeh]
  cases isLow c <;> cases isDig c <;> cases decide (65 ≤ c.toNat) <;> cases decide (c.toNat ≤ 90) <;> rfl
theorem call_rbehind {β : Type} (c : UInt8) (st : St) (K : Kv β) : callS (orc vE) 83 [.int .u8 (c.toNat : Int)] st K = K (.bool (isBeh c)) st q0 := callS_bare st K rfl rfl rfl (rbehind c)
theorem rhas {s t : List UInt8} {i : Nat} (ht : t.length = 2) (hi : i ≤ 1000000) : (orc vE).bare 80 [.str s, .int .i64 (i : Int), .str t] = some (.bool ((s.drop i).take 2 == t)) := by
  refine bare_of rfl ((g80_eq _ _ _).trans ?_)
  by_cases h : i + 2 ≤ s.length
  · have h' : ((i + 2 : Nat) : Int) ≤ (s.length : Int) := by omega
    have e : (s.take (i + 2)).drop i = (s.drop i).take 2 := by rw [List.drop_take]; congr 1; omega
    simp only [g80, asS_str, asI_int, letV_eq, wrapA2 (show i + 2 ≤ 9223372036854775807 by omega), ifB_decide, if_pos h', uptoS_nat h, uptoS_nat (show i ≤ i + 2 by omega), e, bindO_ok, unc_cons, asB_bool, un0_nil]
  · have h' : ¬ ((i + 2 : Nat) : Int) ≤ (s.length : Int) := by omega
    have e : ((s.drop i).take 2 == t) = false := by
      rw [beq_eq_false_iff_ne]
      intro e
      have := congrArg List.length e
      rw [List.length_take, List.length_drop, ht] at this
      omega
    simp only [g80, asS_str, asI_int, letV_eq, wrapA2 (show i + 2 ≤ 9223372036854775807 by omega), ifB_decide, if_neg h', e, bindO_ok, unc_cons, asB_bool, un0_nil]
theorem call_has {β : Type} (s : List UInt8) {t : List UInt8} {i : Nat} (ht : t.length = 2) (hi : i ≤ 1000000) (st : St) (K : Kv β) : callS (orc vE) 80 [.str s, .int .i64 (i : Int), .str t] st K = K (.bool ((s.drop i).take 2 == t)) st q0 := callS_bare st K rfl rfl rfl (rhas ht hi)
theorem call_has0 {β : Type} (s : List UInt8) {t : List UInt8} (ht : t.length = 2) (st : St) (K : Kv β) : callS (orc vE) 80 [.str s, .int .i64 0, .str t] st K = K (.bool (s.take 2 == t)) st q0 := call_has s (i := 0) ht (by omega) st K

theorem wh_loop {p : UInt8 → Bool} {L : Car → Option (Car ⊕ Nat × Car)} {s : List UInt8} {st : St} (hp : p 0 = false)
    (h1 : ∀ n : Nat, n < s.length → p (s.getD n 0) = true → L ([.int .i64 (n : Int)], st) = some (.inl ([.int .i64 ((n + 1 : Nat) : Int)], st)))
    (h0 : ∀ n : Nat, p (s.getD n 0) = false → L ([.int .i64 (n : Int)], st) = some (.inr (0, [.int .i64 (n : Int)], st))) :
    ∀ (l : List UInt8) (n : Nat), s.drop n = l → loopO L ([.int .i64 (n : Int)], st) = some (0, [.int .i64 ((n + wh p l : Nat) : Int)], st)
  | [], n, hd => by
    rw [loopO_inr (h0 n (by rw [at_nil hd]; exact hp))]; rfl
  | c :: l, n, hd => by
    obtain ⟨_, hr, hlt⟩ := drop_cons hd
    have ha := at_cons hd
    rw [wh_cons]
    cases hc : p c with
    | true =>
      rw [loopO_inl (h1 n hlt (by rw [ha]; exact hc)), wh_loop hp h1 h0 l (n + 1) hr]
      simp only [if_true]
      rw [show n + 1 + wh p l = n + (wh p l + 1) by omega]
    | false =>
      rw [loopO_inr (h0 n (by rw [ha]; exact hc))]; rfl
section
variable {s : List UInt8} (hs : s.length ≤ 1000000) (st : St) {l : List UInt8} {n : Nat} (hd : s.drop n = l)
include hs hd
theorem num_loop1 : loopO (g86_L1 s) ([.int .i64 (n : Int)], st) = some (0, [.int .i64 ((n + wh isDig l : Nat) : Int)], st) := by
  refine wh_loop (p := isDig) rfl (fun n hn h => ?_) (fun n h => ?_) l n hd
  · simp only [g86_L1, unc_cons, asI_int, un0_nil, call_at, call_rdigit, h, asB_bool, ifB_true, letV_eq, wrapA1 (show n + 1 ≤ 9223372036854775807 by omega)]
  · simp only [g86_L1, unc_cons, asI_int, un0_nil, call_at, call_rdigit, h, asB_bool, ifB_false]
theorem num_loop2 : loopO (g86_L2 s) ([.int .i64 (n : Int)], st) = some (0, [.int .i64 ((n + wh isDig l : Nat) : Int)], st) := by
  refine wh_loop (p := isDig) rfl (fun n hn h => ?_) (fun n h => ?_) l n hd
  · simp only [g86_L2, unc_cons, asI_int, un0_nil, call_at, call_rdigit, h, asB_bool, ifB_true, letV_eq, wrapA1 (show n + 1 ≤ 9223372036854775807 by omega)]
  · simp only [g86_L2, unc_cons, asI_int, un0_nil, call_at, call_rdigit, h, asB_bool, ifB_false]
theorem cut_loop1 : loopO (g63_L1 s) ([.int .i64 (n : Int)], st) = some (0, [.int .i64 ((n + wh isBlank l : Nat) : Int)], st) := by
  refine wh_loop (p := isBlank) rfl (fun n hn h => ?_) (fun n h => ?_) l n hd
  · simp only [g63_L1, unc_cons, asI_int, un0_nil, call_at, call_rblank, h, asB_bool, ifB_true, letV_eq, wrapA1 (show n + 1 ≤ 9223372036854775807 by omega)]
  · simp only [g63_L1, unc_cons, asI_int, un0_nil, call_at, call_rblank, h, asB_bool, ifB_false]
theorem cut_loop2 : loopO (g63_L2 s) ([.int .i64 (n : Int)], st) = some (0, [.int .i64 ((n + wh isBeh l : Nat) : Int)], st) := by
  refine wh_loop (p := isBeh) rfl (fun n hn h => ?_) (fun n h => ?_) l n hd
  · simp only [g63_L2, unc_cons, asI_int, un0_nil, call_at, call_rbehind, h, asB_bool, ifB_true, letV_eq, wrapA1 (show n + 1 ≤ 9223372036854775807 by omega)]
  · simp only [g63_L2, unc_cons, asI_int, un0_nil, call_at, call_rbehind, h, asB_bool, ifB_false]
end
def stepC (a : Nat) (c : UInt8) : Nat := min (stepV a c) 1000000
def numC (a : Nat) (l : List UInt8) : Nat := l.foldl stepC a
theorem numC_nil (a : Nat) : numC a [] = a := id rfl
theorem numC_cons (a : Nat) (c : UInt8) (l : List UInt8) : numC a (c :: l) = numC (stepC a c) l := id rfl
theorem numC_min : ∀ (l : List UInt8) (a : Nat), numC (min a 1000000) l = min (numV a l) 1000000
  | [], a => by rw [numC_nil, numV_nil]
  | c :: l, a => by
    rw [numC_cons, numV_cons, ← numC_min l (stepV a c)]
    congr 1
    unfold stepC stepV
    omega
theorem pow_loop {s : List UInt8} (hs : s.length ≤ 1000000) (st : St) : ∀ (l : List UInt8) (n a : Nat), s.drop n = l → a ≤ 1000000 →
    loopO (g86_L3 s) ([.int .i64 (a : Int), .int .i64 (n : Int)], st) = some (0, [.int .i64 (numC a (l.take (wh isDig l)) : Int), .int .i64 ((n + wh isDig l : Nat) : Int)], st)
  | [], n, a, hd, ha => by
    have h : isDig (s.getD n 0) = false := by rw [at_nil hd]; rfl
    refine loopO_inr ?_
    simp only [g86_L3, unc_cons, asI_int, un0_nil, call_at, call_rdigit, h, asB_bool, ifB_false]
    rfl
  | c :: l, n, a, hd, ha => by
    obtain ⟨hg, hr, hlt⟩ := drop_cons hd
    have hat := at_cons hd
    rw [wh_cons]
    cases hc : isDig c with
    | false =>
      have h : isDig (s.getD n 0) = false := by rw [hat]; exact hc
      refine loopO_inr ?_
      simp only [g86_L3, unc_cons, asI_int, un0_nil, call_at, call_rdigit, h, asB_bool, ifB_false]
      rfl
    | true =>
      have h : isDig (s.getD n 0) = true := by rw [hat]; exact hc
      have hcc : 48 ≤ c.toNat ∧ c.toNat ≤ 57 := by
        simpa only [isDig, Bool.and_eq_true, decide_eq_true_eq] using hc
      have he : s[n] = c := getElem_of hlt hg
      have w1 : IntKind.wrap .i64 ((a : Int) * 10) = ((a * 10 : Nat) : Int) := wrapN (n := a * 10) (by omega)
      have w2 : IntKind.wrap .i64 ((c.toNat : Nat) : Int) = ((c.toNat : Nat) : Int) := wrapN (by omega)
      have w3 : IntKind.wrap .i64 (((a * 10 : Nat) : Int) + ((c.toNat : Nat) : Int)) = ((a * 10 + c.toNat : Nat) : Int) := wrapA (by omega)
      have w4 : IntKind.wrap .i64 (((a * 10 + c.toNat : Nat) : Int) - 48) = ((a * 10 + c.toNat - 48 : Nat) : Int) := wrapS (m := 48) (by omega) (by omega)
      have w5 : (if (1000000 : Int) < ((a * 10 + c.toNat - 48 : Nat) : Int) then (1000000 : Int) else ((a * 10 + c.toNat - 48 : Nat) : Int)) = (stepC a c : Int) := by
        unfold stepC stepV
        split <;> omega
      have hb : stepC a c ≤ 1000000 := by unfold stepC; omega
      rw [loopO_inl (s' := ([.int .i64 (stepC a c : Int), .int .i64 ((n + 1 : Nat) : Int)], st)), pow_loop hs st l (n + 1) _ hr hb]
      · simp only [if_true, List.take_succ_cons, numC_cons]
        rw [show n + 1 + wh isDig l = n + (wh isDig l + 1) by omega]
      · simp only [g86_L3, unc_cons, asI_int, un0_nil, call_at, call_rdigit, h, asB_bool, ifB_true, letV_eq, w1, idxStr_nat hlt, he, w2, w3, w4, w5, wrapA1 (show n + 1 ≤ 9223372036854775807 by omega)]
theorem rremark_loop (s : List UInt8) (hs : s.length ≤ 1000000) (st : St) : ∀ (l : List UInt8) (i d : Nat), s.drop i = l → i ≤ s.length → 1 ≤ d → d ≤ i →
    loopO (g81_L1 s) ([.int .i64 (d : Int), .int .i64 0, .bool false, .int .i64 (i : Int)], st) = some (match rem l d with | some n => (1, [.int .i64 ((i + n : Nat) : Int), .bool true], st) | none => (0, [.int .i64 0, .bool false], st))
  | [], i, d, hd, hi, h1, h2 => by
    have := List.drop_eq_nil_iff.1 hd
    have q : ¬ (i : Int) < (s.length : Int) := by omega
    refine loopO_inr ?_
    simp only [g81_L1, unc_cons, asI_int, asB_bool, un0_nil, ifB_decide, if_neg q]
    rfl
  | [a], i, d, hd, hi, h1, h2 => by
    obtain ⟨hg, hr, hlt⟩ := drop_cons hd
    have q : (i : Int) < (s.length : Int) := by omega
    have ih := rremark_loop s hs st [] (i + 1) d hr (by omega) h1 (by omega)
    rw [loopO_inl (s' := ([.int .i64 (d : Int), .int .i64 0, .bool false, .int .i64 ((i + 1 : Nat) : Int)], st)), ih]
    · rfl
    · simp only [g81_L1, unc_cons, asI_int, un0_nil, ifB_decide, if_pos q, call_has s (t := [40, 42]) rfl (show i ≤ 1000000 by omega), call_has s (t := [42, 41]) rfl (show i ≤ 1000000 by omega), hd, asB_bool]
      simp only [show ([a].take 2 == [(40 : UInt8), 42]) = false by simp, show ([a].take 2 == [(42 : UInt8), 41]) = false by simp, ifB_false, letV_eq, bindO_ok, onSum_inl, unc_cons, asI_int, asB_bool, un0_nil, wrapA1 (show i + 1 ≤ 9223372036854775807 by omega)]
  | a :: b :: l, i, d, hd, hi, h1, h2 => by
    obtain ⟨hg, hr, hlt⟩ := drop_cons hd
    obtain ⟨hg2, hr2, hlt2⟩ := drop_cons hr
    have q : (i : Int) < (s.length : Int) := by omega
    have t1 : ((a :: b :: l).take 2 == [40, 42]) = (decide (a = 40 ∧ b = 42)) := by
      show ([a, b] == [40, 42]) = _
      by_cases h : a = 40 ∧ b = 42
      · rw [h.1, h.2]; rfl
      · rw [decide_eq_false h, beq_eq_false_iff_ne]
        intro e
        simp only [List.cons.injEq, and_true] at e
        exact h e
    have t2 : ((a :: b :: l).take 2 == [42, 41]) = (decide (a = 42 ∧ b = 41)) := by
      show ([a, b] == [42, 41]) = _
      by_cases h : a = 42 ∧ b = 41
      · rw [h.1, h.2]; rfl
      · rw [decide_eq_false h, beq_eq_false_iff_ne]
        intro e
        simp only [List.cons.injEq, and_true] at e
        exact h e
    by_cases c1 : a = 40 ∧ b = 42
    · have ih := rremark_loop s hs st l (i + 2) (d + 1) hr2 (by omega) (by omega) (by omega)
      rw [loopO_inl (s' := ([.int .i64 ((d + 1 : Nat) : Int), .int .i64 0, .bool false, .int .i64 ((i + 2 : Nat) : Int)], st)), ih]
      · simp only [rem, if_pos c1]
        cases rem l (d + 1) with
        | none => rfl
        | some n => simp only [Option.map_some]; rw [show i + 2 + n = i + (n + 2) by omega]
      · simp only [g81_L1, unc_cons, asI_int, un0_nil, ifB_decide, if_pos q, call_has s (t := [40, 42]) rfl (show i ≤ 1000000 by omega), hd, t1, if_pos c1, asB_bool, letV_eq, bindO_ok, onSum_inl, wrapA1 (show d + 1 ≤ 9223372036854775807 by omega), wrapA2 (show i + 2 ≤ 9223372036854775807 by omega)]
    · by_cases c2 : a = 42 ∧ b = 41
      · have w := wrapS (n := d) (m := 1) h1 (by omega)
        have w : IntKind.wrap .i64 ((d : Int) - 1) = ((d - 1 : Nat) : Int) := w
        by_cases c3 : d = 1
        · subst c3
          simp only [rem, if_neg c1, if_pos c2, if_true]
          refine loopO_inr ?_
          simp only [g81_L1, unc_cons, asI_int, un0_nil, ifB_decide, if_pos q, call_has s (t := [40, 42]) rfl (show i ≤ 1000000 by omega), call_has s (t := [42, 41]) rfl (show i ≤ 1000000 by omega), hd, t1, t2, if_neg c1, if_pos c2, asB_bool, letV_eq, bindO_ok, w, wrapA2 (show i + 2 ≤ 9223372036854775807 by omega), ifB_beq]
          rfl
        · have ih := rremark_loop s hs st l (i + 2) (d - 1) hr2 (by omega) (by omega) (by omega)
          have z : ¬ ((d - 1 : Nat) : Int) = 0 := by omega
          rw [loopO_inl (s' := ([.int .i64 ((d - 1 : Nat) : Int), .int .i64 0, .bool false, .int .i64 ((i + 2 : Nat) : Int)], st)), ih]
          · simp only [rem, if_neg c1, if_pos c2, if_neg c3]
            cases rem l (d - 1) with
            | none => rfl
            | some n => simp only [Option.map_some]; rw [show i + 2 + n = i + (n + 2) by omega]
          · simp only [g81_L1, unc_cons, asI_int, un0_nil, ifB_decide, if_pos q, call_has s (t := [40, 42]) rfl (show i ≤ 1000000 by omega), call_has s (t := [42, 41]) rfl (show i ≤ 1000000 by omega), hd, t1, t2, if_neg c1, if_pos c2, asB_bool, letV_eq, bindO_ok, w, wrapA2 (show i + 2 ≤ 9223372036854775807 by omega), ifB_beq, if_neg z, onSum_inl]
      · have ih := rremark_loop s hs st (b :: l) (i + 1) d hr (by omega) h1 (by omega)
        rw [loopO_inl (s' := ([.int .i64 (d : Int), .int .i64 0, .bool false, .int .i64 ((i + 1 : Nat) : Int)], st)), ih]
        · simp only [rem, if_neg c1, if_neg c2]
          cases rem (b :: l) d with
          | none => rfl
          | some n => simp only [Option.map_some]; rw [show i + 1 + n = i + (n + 1) by omega]
        · simp only [g81_L1, unc_cons, asI_int, un0_nil, ifB_decide, if_pos q, call_has s (t := [40, 42]) rfl (show i ≤ 1000000 by omega), call_has s (t := [42, 41]) rfl (show i ≤ 1000000 by omega), hd, t1, t2, if_neg c1, if_neg c2, asB_bool, letV_eq, bindO_ok, onSum_inl, wrapA1 (show i + 1 ≤ 9223372036854775807 by omega)]
theorem rremark_ok {s : List UInt8} (hs : s.length ≤ 1000000) (h2 : 2 ≤ s.length) : (orc vE).bare 81 [.str s] = some (match rem (s.drop 2) 1 with | some n => .tup [.int .i64 ((n + 2 : Nat) : Int), .bool true] | none => .tup [.int .i64 (s.length : Int), .bool false]) := by
  refine bare_of rfl ((g81_eq _).trans ?_)
  have e : loopO (g81_L1 s) ([.int .i64 1, .int .i64 0, .bool false, .int .i64 2], St.mk 0 0 Tr.leaf) = _ := rremark_loop s hs (St.mk 0 0 Tr.leaf) (s.drop 2) 2 1 rfl h2 (by omega) (by omega)
  simp only [g81, asS_str]
  rw [e]
  cases rem (s.drop 2) 1 with
  | none => simp only [bindO_ok, unc_cons, asI_int, asB_bool, un0_nil, sel2_zero]
  | some n => simp only [bindO_ok, unc_cons, asI_int, asB_bool, un0_nil, sel2_one]; rw [Nat.add_comm 2 n]
end Go.Proofs.YtflnfagdpoddiaaGreatDoor.Vm
set_option maxRecDepth 100000
set_option linter.unusedSimpArgs false
namespace Go.Proofs.YtflnfagdpoddiaaGreatDoor.Vm
open Go Go.VM Go.Proofs Go.Lex

def Ends (st : St) (r : Option (Nat × Car)) (p : Nat × Nat) : Prop :=
  (∃ c : Int, r = some (1, [.int .u8 (p.1 : Int), .int .i64 (p.2 : Int), .int .i64 c], st)) ∨ (p.1 = 9 ∧ r = some (0, [.int .u8 0, .int .i64 0, .int .i64 (p.2 : Int)], st))
theorem bad_loop {s : List UInt8} (hs : s.length ≤ 1000000) (st : St) : ∀ (l : List UInt8) (i : Nat), s.drop i = l → i ≤ s.length →
    Ends st (loopO (g87_L1 s) ([.int .u8 0, .int .i64 0, .bool true, .int .i64 (i : Int)], st)) (9, i + badT l)
  | [], i, hd, hi => by
    have := List.drop_eq_nil_iff.1 hd
    have q : ¬ (i : Int) < (s.length : Int) := by omega
    refine .inr ⟨rfl, loopO_inr ?_⟩
    simp only [g87_L1, unc_cons, asI_int, asB_bool, un0_nil, ifB_decide, if_neg q, bindO_ok, ifB_false]
    rfl
  | c :: l, i, hd, hi => by
    obtain ⟨hg, hr, hlt⟩ := drop_cons hd
    have q : (i : Int) < (s.length : Int) := by omega
    have hc : s[i] = c := getElem_of hlt hg
    have b1 : ((c.toNat : Int) != 10) = (c != 10) := by unfold bne; rw [show ((c.toNat : Int) == 10) = (c == 10) from byte_beq c 10]
    have b2 : ((c.toNat : Int) == 34) = (c == 34) := byte_beq c 34
    have b3 : ((c.toNat : Int) == 92) = (c == 92) := byte_beq c 92
    by_cases c1 : c = 10
    · have z : (c != 10) = false := by simp [c1]
      simp only [badT, if_pos c1]
      refine .inr ⟨rfl, loopO_inr ?_⟩
      simp only [g87_L1, unc_cons, asI_int, asB_bool, un0_nil, ifB_decide, if_pos q, idxStr_nat hlt, hc, b1, z, bindO_ok, ifB_false]
      rfl
    · have z : (c != 10) = true := by simp [c1]
      by_cases c2 : c = 34
      · have z2 : (c == 34) = true := by simp [c2]
        simp only [badT, if_neg c1, if_pos c2]
        refine .inl ⟨(i : Int), loopO_inr ?_⟩
        simp only [g87_L1, unc_cons, asI_int, asB_bool, un0_nil, ifB_decide, if_pos q, idxStr_nat hlt, hc, b1, b2, z, z2, bindO_ok, ifB_true, letV_eq, wrapA1 (show i + 1 ≤ 9223372036854775807 by omega)]
        rfl
      · have z2 : (c == 34) = false := by simp [c2]
        have ih := bad_loop hs st l (i + 1) hr (by omega)
        rw [loopO_inl (s' := ([.int .u8 0, .int .i64 0, .bool true, .int .i64 ((i + 1 : Nat) : Int)], st))]
        · simp only [badT, if_neg c1, if_neg c2]
          rw [show i + (badT l + 1) = i + 1 + badT l by omega]
          exact ih
        · simp only [g87_L1, unc_cons, asI_int, asB_bool, un0_nil, ifB_decide, if_pos q, idxStr_nat hlt, hc, b1, b2, b3, z, z2, bindO_ok, ifB_true, ifB_false, letV_eq, Bool.not_true]
          cases c == 92 <;> simp only [ifB_true, ifB_false, bindO_ok, unc_cons, asB_bool, asI_int, un0_nil, letV_eq, wrapA1 (show i + 1 ≤ 9223372036854775807 by omega)]
theorem rtext_loop {s : List UInt8} (hs : s.length ≤ 1000000) (st : St) : ∀ (l : List UInt8) (i : Nat), s.drop i = l → i ≤ s.length →
    Ends st (loopO (g87_L1 s) ([.int .u8 0, .int .i64 0, .bool false, .int .i64 (i : Int)], st)) ((txt l).1, i + (txt l).2)
  | [], i, hd, hi => by
    have := List.drop_eq_nil_iff.1 hd
    have q : ¬ (i : Int) < (s.length : Int) := by omega
    refine .inr ⟨rfl, loopO_inr ?_⟩
    simp only [g87_L1, unc_cons, asI_int, asB_bool, un0_nil, ifB_decide, if_neg q, bindO_ok, ifB_false]
    rfl
  | [c], i, hd, hi => by
    obtain ⟨hg, hr, hlt⟩ := drop_cons hd
    have q : (i : Int) < (s.length : Int) := by omega
    have hc : s[i] = c := getElem_of hlt hg
    have b1 : ((c.toNat : Int) != 10) = (c != 10) := by unfold bne; rw [show ((c.toNat : Int) == 10) = (c == 10) from byte_beq c 10]
    have b2 : ((c.toNat : Int) == 34) = (c == 34) := byte_beq c 34
    have b3 : ((c.toNat : Int) == 92) = (c == 92) := byte_beq c 92
    by_cases c1 : c = 10
    · have z : (c != 10) = false := by simp [c1]
      simp only [txt, if_pos c1]
      refine .inr ⟨rfl, loopO_inr ?_⟩
      simp only [g87_L1, unc_cons, asI_int, asB_bool, un0_nil, ifB_decide, if_pos q, idxStr_nat hlt, hc, b1, z, bindO_ok, ifB_false]
      rfl
    · have z : (c != 10) = true := by simp [c1]
      by_cases c2 : c = 34
      · have z2 : (c == 34) = true := by simp [c2]
        simp only [txt, if_neg c1, if_pos c2]
        refine .inl ⟨(i : Int), loopO_inr ?_⟩
        simp only [g87_L1, unc_cons, asI_int, asB_bool, un0_nil, ifB_decide, if_pos q, idxStr_nat hlt, hc, b1, b2, z, z2, bindO_ok, ifB_true, ifB_false, letV_eq, wrapA1 (show i + 1 ≤ 9223372036854775807 by omega)]
        rfl
      · have z2 : (c == 34) = false := by simp [c2]
        simp only [txt, if_neg c1, if_neg c2]
        cases hb : c == 92 with
        | true =>
          rw [loopO_inl (s' := ([.int .u8 0, .int .i64 0, .bool true, .int .i64 ((i + 1 : Nat) : Int)], st))]
          · exact bad_loop hs st [] (i + 1) hr (by omega)
          · have ha := at_nil hr
            have e : (((0 : UInt8).toNat : Nat) : Int) = 0 := rfl
            simp only [g87_L1, unc_cons, asI_int, asB_bool, un0_nil, ifB_decide, if_pos q, idxStr_nat hlt, hc, b1, b2, b3, z, z2, hb, bindO_ok, ifB_true, ifB_false, letV_eq, Bool.not_false, wrapA1 (show i + 1 ≤ 9223372036854775807 by omega), call_at, ha, e]
            simp only [show ((0 : Int) == 110) = false from rfl, show ((0 : Int) == 116) = false from rfl, show ((0 : Int) == 92) = false from rfl, show ((0 : Int) == 34) = false from rfl, ifB_false, bindO_ok, unc_cons, asB_bool, asI_int, un0_nil, letV_eq, wrapA1 (show i + 1 ≤ 9223372036854775807 by omega)]
        | false =>
          rw [loopO_inl (s' := ([.int .u8 0, .int .i64 0, .bool false, .int .i64 ((i + 1 : Nat) : Int)], st))]
          · exact rtext_loop hs st [] (i + 1) hr (by omega)
          · simp only [g87_L1, unc_cons, asI_int, asB_bool, un0_nil, ifB_decide, if_pos q, idxStr_nat hlt, hc, b1, b2, b3, z, z2, hb, bindO_ok, ifB_true, ifB_false, letV_eq, wrapA1 (show i + 1 ≤ 9223372036854775807 by omega)]
  | c :: d :: l, i, hd, hi => by
    obtain ⟨hg, hr, hlt⟩ := drop_cons hd
    obtain ⟨hg2, hr2, hlt2⟩ := drop_cons hr
    have q : (i : Int) < (s.length : Int) := by omega
    have hc : s[i] = c := getElem_of hlt hg
    have b1 : ((c.toNat : Int) != 10) = (c != 10) := by unfold bne; rw [show ((c.toNat : Int) == 10) = (c == 10) from byte_beq c 10]
    have b2 : ((c.toNat : Int) == 34) = (c == 34) := byte_beq c 34
    have b3 : ((c.toNat : Int) == 92) = (c == 92) := byte_beq c 92
    by_cases c1 : c = 10
    · have z : (c != 10) = false := by simp [c1]
      simp only [txt, if_pos c1]
      refine .inr ⟨rfl, loopO_inr ?_⟩
      simp only [g87_L1, unc_cons, asI_int, asB_bool, un0_nil, ifB_decide, if_pos q, idxStr_nat hlt, hc, b1, z, bindO_ok, ifB_false]
      rfl
    · have z : (c != 10) = true := by simp [c1]
      by_cases c2 : c = 34
      · have z2 : (c == 34) = true := by simp [c2]
        simp only [txt, if_neg c1, if_pos c2]
        refine .inl ⟨(i : Int), loopO_inr ?_⟩
        simp only [g87_L1, unc_cons, asI_int, asB_bool, un0_nil, ifB_decide, if_pos q, idxStr_nat hlt, hc, b1, b2, z, z2, bindO_ok, ifB_true, ifB_false, letV_eq, wrapA1 (show i + 1 ≤ 9223372036854775807 by omega)]
        rfl
      · have z2 : (c == 34) = false := by simp [c2]
        simp only [txt, if_neg c1, if_neg c2]
        cases hb : c == 92 with
        | true =>
          have hb' : c = 92 := eq_of_beq hb
          simp only [if_pos hb']
          have ha := at_cons hr
          have d1 : ((d.toNat : Int) == 110) = (d == 110) := byte_beq d 110
          have d2 : ((d.toNat : Int) == 116) = (d == 116) := byte_beq d 116
          have d3 : ((d.toNat : Int) == 92) = (d == 92) := byte_beq d 92
          have d4 : ((d.toNat : Int) == 34) = (d == 34) := byte_beq d 34
          have esc : ∀ (st : St) {β : Type} (K : List AV × St → Option β), (bindO (ifB (d == 110) (some ([AV.bool true], st)) (ifB (d == 116) (some ([AV.bool true], st)) (ifB (d == 92) (some ([AV.bool true], st)) (some ([AV.bool (d == 34)], st))))) K) = K ([AV.bool (isEsc d)], st) := by
            intro st β K
            unfold isEsc
            cases d == 110 <;> cases d == 116 <;> cases d == 92 <;> rfl
          cases he : isEsc d with
          | true =>
            simp only [if_true]
            rw [loopO_inl (s' := ([.int .u8 0, .int .i64 0, .bool false, .int .i64 ((i + 2 : Nat) : Int)], st)), show i + ((txt l).2 + 2) = i + 2 + (txt l).2 by omega]
            · exact rtext_loop hs st l (i + 2) hr2 (by omega)
            · simp only [g87_L1, unc_cons, asI_int, asB_bool, un0_nil, ifB_decide, if_pos q, idxStr_nat hlt, hc, b1, b2, b3, z, z2, hb, bindO_ok, ifB_true, ifB_false, letV_eq, Bool.not_false, wrapA1 (show i + 1 ≤ 9223372036854775807 by omega), call_at, ha, d1, d2, d3, d4, esc, he, wrapA1 (show i + 1 + 1 ≤ 9223372036854775807 by omega)]
          | false =>
            simp only [Bool.false_eq_true, if_false]
            rw [loopO_inl (s' := ([.int .u8 0, .int .i64 0, .bool true, .int .i64 ((i + 1 : Nat) : Int)], st)), show i + (badT (d :: l) + 1) = i + 1 + badT (d :: l) by omega]
            · exact bad_loop hs st (d :: l) (i + 1) hr (by omega)
            · simp only [g87_L1, unc_cons, asI_int, asB_bool, un0_nil, ifB_decide, if_pos q, idxStr_nat hlt, hc, b1, b2, b3, z, z2, hb, bindO_ok, ifB_true, ifB_false, letV_eq, Bool.not_false, wrapA1 (show i + 1 ≤ 9223372036854775807 by omega), call_at, ha, d1, d2, d3, d4, esc, he]
        | false =>
          have hb' : ¬ c = 92 := by simpa using hb
          simp only [if_neg hb']
          rw [loopO_inl (s' := ([.int .u8 0, .int .i64 0, .bool false, .int .i64 ((i + 1 : Nat) : Int)], st)), show i + ((txt (d :: l)).2 + 1) = i + 1 + (txt (d :: l)).2 by omega]
          · exact rtext_loop hs st (d :: l) (i + 1) hr (by omega)
          · simp only [g87_L1, unc_cons, asI_int, asB_bool, un0_nil, ifB_decide, if_pos q, idxStr_nat hlt, hc, b1, b2, b3, z, z2, hb, bindO_ok, ifB_true, ifB_false, letV_eq, wrapA1 (show i + 1 ≤ 9223372036854775807 by omega)]
theorem rtext_ok {c : UInt8} {l : List UInt8} (hs : (c :: l).length ≤ 1000000) : (orc vE).bare 87 [.str (c :: l)] = some (.tup [.int .u8 ((txt l).1 : Int), .int .i64 (((txt l).2 + 1 : Nat) : Int)]) := by
  refine bare_of rfl ((g87_eq _).trans ?_)
  have e := rtext_loop hs (St.mk 0 0 Tr.leaf) l 1 rfl (by simp)
  rw [Nat.add_comm 1 (txt l).2] at e
  simp only [g87, asS_str]
  rcases e with ⟨x, e⟩ | ⟨h9, e⟩
  · have e : loopO (g87_L1 (c :: l)) ([.int .u8 0, .int .i64 0, .bool false, .int .i64 1], St.mk 0 0 Tr.leaf) = _ := e
    rw [e]
    simp only [bindO_ok, unc_cons, asI_int, un0_nil, sel2_one]
  · have e : loopO (g87_L1 (c :: l)) ([.int .u8 0, .int .i64 0, .bool false, .int .i64 1], St.mk 0 0 Tr.leaf) = _ := e
    have h9 : (txt l).1 = 9 := h9
    rw [e, h9]
    simp only [bindO_ok, unc_cons, asI_int, un0_nil, sel2_zero]
    rfl
end Go.Proofs.YtflnfagdpoddiaaGreatDoor.Vm
set_option maxRecDepth 100000
set_option linter.unusedSimpArgs false
namespace Go.Proofs.YtflnfagdpoddiaaGreatDoor.Vm
open Go Go.VM Go.Proofs Go.Lex

theorem head_at (s : List UInt8) (n : Nat) (d : UInt8) (hd : d ≠ 0) : (s.getD n 0 == d) = decide ((s.drop n).head? = some d) := by
  cases h : s.drop n with
  | nil =>
    rw [at_nil h]
    simp
    exact fun e => hd e.symm
  | cons c l =>
    rw [at_cons h]
    by_cases e : c = d
    · subst e; simp
    · rw [beq_eq_false_iff_ne.2 e]
      simp [e]
theorem rexpo {s : List UInt8} (hs : s.length ≤ 1000000) (e : Nat) (pw : Int) (hp : -2000000 ≤ pw) (hp2 : pw ≤ 2000000) (he : e ≤ s.length) {β : Type} (st : St) (K : Car → Option β) :
    (bindO (callS (orc vE) 79 [AV.str s, AV.int .i64 (e : Int)] st fun v43 st44 _x => asI .u8 v43 fun n46 => ifB (n46 == 101) (some
 ([AV.bool true], st44)) (callS (orc vE) 79 [AV.str s, AV.int .i64 (e : Int)] st44 fun v47 st48 _x => asI .u8 v47 fun n50 => some ([AV.bool (n50 == 69)], st48))) fun c51 => unc (Prod.fst c51) fun v52 l53 => asB v52 fun b54 =>
 un0 l53 (bindO (ifB b54 (letV (IntKind.wrap .i64 ((e : Int) + 1)) fun n55 => callS (orc vE) 79 [AV.str s, AV.int .i64 n55] (Prod.snd c51) fun v56 st57 _x => asI .u8 v56 fun n59 => bindO (ifB (n59 == 45) (some ([AV.bool
 true], st57)) (callS (orc vE) 79 [AV.str s, AV.int .i64 n55] st57 fun v60 st61 _x => asI .u8 v60 fun n63 => some ([AV.bool (n63 == 43)], st61))) fun c64 => unc (Prod.fst c64) fun v65 l66 => asB v65 fun b67 => un0 l66
 (bindO (ifB b67 (letV (IntKind.wrap .i64 (n55 + 1)) fun n68 => some ([AV.int .i64 n68], Prod.snd c64)) (some ([AV.int .i64 n55], Prod.snd c64))) fun c69 => unc (Prod.fst c69) fun v70 l71 => asI .i64 v70 fun n72 => un0
 l71 (bindO (loopO (g86_L3 s) ([AV.int .i64 0, AV.int .i64 n72], Prod.snd c69)) fun c95 => unc (Prod.fst (Prod.snd c95)) fun v96 l97 => asI .i64 v96 fun n98 => unc l97 fun v99 l100 => asI .i64 v99 fun n101 => un0 l100
 (bindO (ifB (decide (n101 > n72)) (bindO (ifB (n59 == 45) (letV (IntKind.wrap .i64 (0 - n98)) fun n102 => some ([AV.int .i64 n102], Prod.snd (Prod.snd c95))) (some ([AV.int .i64 n98], Prod.snd (Prod.snd c95)))) fun c103
 => unc (Prod.fst c103) fun v104 l105 => asI .i64 v104 fun n106 => un0 l105 (letV (IntKind.wrap .i64 (pw + n106)) fun n107 => some ([AV.int .i64 n101, AV.int .i64 n107], Prod.snd c103))) (some ([AV.int .i64 (e : Int), AV.int .i64
 pw], Prod.snd (Prod.snd c95)))) fun c108 => unc (Prod.fst c108) fun v109 l110 => asI .i64 v109 fun n111 => unc l110 fun v112 l113 => asI .i64 v112 fun n114 => un0 l113 (some ([AV.int .i64 n111, AV.int .i64 n114],
 Prod.snd c108)))))) (some ([AV.int .i64 (e : Int), AV.int .i64 pw], Prod.snd c51))) K)) = K ([.int .i64 ((e + (expo (s.drop e)).1 : Nat) : Int), .int .i64 (pw + (expo (s.drop e)).2)], st) := by
  have a1 : ((((s.getD e 0).toNat : Nat) : Int) == 101) = (s.getD e 0 == 101) := byte_beq _ 101
  have a2 : ((((s.getD e 0).toNat : Nat) : Int) == 69) = (s.getD e 0 == 69) := byte_beq _ 69
  have w1 := wrapA1 (show e + 1 ≤ 9223372036854775807 by omega)
  have a3 : ((((s.getD (e + 1) 0).toNat : Nat) : Int) == 45) = (s.getD (e + 1) 0 == 45) := byte_beq _ 45
  have a4 : ((((s.getD (e + 1) 0).toNat : Nat) : Int) == 43) = (s.getD (e + 1) 0 == 43) := byte_beq _ 43
  have isE : ∀ (st : St) {γ : Type} (K : List AV × St → Option γ), bindO (ifB (s.getD e 0 == 101) (some ([AV.bool true], st)) (some ([AV.bool (s.getD e 0 == 69)], st))) K = K ([AV.bool (s.getD e 0 == 101 || s.getD e 0 == 69)], st) := by
    intro st γ K
    cases s.getD e 0 == 101 <;> rfl
  have isS : ∀ (st : St) {γ : Type} (K : List AV × St → Option γ), bindO (ifB (s.getD (e + 1) 0 == 45) (some ([AV.bool true], st)) (some ([AV.bool (s.getD (e + 1) 0 == 43)], st))) K = K ([AV.bool (isSgn (s.getD (e + 1) 0))], st) := by
    intro st γ K
    unfold isSgn
    cases s.getD (e + 1) 0 == 45 <;> cases s.getD (e + 1) 0 == 43 <;> rfl
  simp only [call_at, asI_int, a1, a2, isE, unc_cons, asB_bool, un0_nil]
  cases hd : s.drop e with
  | nil =>
    rw [at_nil hd]
    simp only [show ((0 : UInt8) == 101 || (0 : UInt8) == 69) = false from rfl, ifB_false, bindO_ok, expo]
    simp
  | cons c l =>
    obtain ⟨hg, hr, hlt⟩ := drop_cons hd
    rw [at_cons hd]
    by_cases hc : c = 101 ∨ c = 69
    · have hc' : (c == 101 || c == 69) = true := by simpa using hc
      have hsg : sgn l = if isSgn (s.getD (e + 1) 0) = true then 1 else 0 := by
        cases l with
        | nil => rw [at_nil hr]; rfl
        | cons d r => rw [at_cons hr]; rfl
      have hsl := sgn_le l
      have hll : l.length = s.length - (e + 1) := by rw [← hr, List.length_drop]
      have hmi : (s.getD (e + 1) 0 == 45) = decide (l.head? = some 45) := by rw [head_at s (e + 1) 45 (by decide), hr]
      have sg : ∀ (st : St) {γ : Type} (K : List AV × St → Option γ), bindO (ifB (isSgn (s.getD (e + 1) 0)) (some ([AV.int .i64 ((e + 1 + 1 : Nat) : Int)], st)) (some ([AV.int .i64 ((e + 1 : Nat) : Int)], st))) K = K ([AV.int .i64 ((e + 1 + sgn l : Nat) : Int)], st) := by
        intro st γ K
        rw [hsg]
        cases isSgn (s.getD (e + 1) 0) <;> rfl
      have hd2 : s.drop (e + 1 + sgn l) = l.drop (sgn l) := by rw [← hr, List.drop_drop]
      have lp := fun st => pow_loop hs st (l.drop (sgn l)) (e + 1 + sgn l) 0 hd2 (by omega)
      have lp : ∀ st, loopO (g86_L3 s) ([.int .i64 0, .int .i64 ((e + 1 + sgn l : Nat) : Int)], st) = _ := lp
      simp only [hc', ifB_true, letV_eq, w1, call_at, asI_int, a3, a4, isS, unc_cons, asB_bool, un0_nil, wrapA1 (show e + 1 + 1 ≤ 9223372036854775807 by omega), sg, lp, bindO_ok]
      have hx : numC 0 ((l.drop (sgn l)).take (wh isDig (l.drop (sgn l)))) = min (numV 0 ((l.drop (sgn l)).take (wh isDig (l.drop (sgn l))))) 1000000 := numC_min _ 0
      simp only [expo, if_pos hc]
      by_cases hz : wh isDig (l.drop (sgn l)) = 0
      · have q : ¬ (((e + 1 + sgn l + wh isDig (l.drop (sgn l)) : Nat) : Int) > ((e + 1 + sgn l : Nat) : Int)) := by omega
        simp only [ifB_decide, if_neg q, bindO_ok, unc_cons, asI_int, un0_nil, if_pos hz]
        simp
      · have q : (((e + 1 + sgn l + wh isDig (l.drop (sgn l)) : Nat) : Int) > ((e + 1 + sgn l : Nat) : Int)) := by omega
        simp only [ifB_decide, if_pos q, bindO_ok, unc_cons, asI_int, un0_nil, if_neg hz, hx, hmi]
        generalize hN : numV 0 ((l.drop (sgn l)).take (wh isDig (l.drop (sgn l)))) = N
        by_cases hm : l.head? = some 45
        · have w2 : IntKind.wrap .i64 (0 - ((min N 1000000 : Nat) : Int)) = -((min N 1000000 : Nat) : Int) := by
            rw [wrap_i64 (by omega) (by omega)]; omega
          have w3 : IntKind.wrap .i64 (pw + -((min N 1000000 : Nat) : Int)) = pw + -((min N 1000000 : Nat) : Int) := wrap_i64 (by omega) (by omega)
          simp only [if_pos hm, letV_eq, w2, bindO_ok, unc_cons, asI_int, un0_nil, w3]
          rw [show e + 1 + sgn l + wh isDig (l.drop (sgn l)) = e + (1 + sgn l + wh isDig (l.drop (sgn l))) by omega]
        · have w3 : IntKind.wrap .i64 (pw + ((min N 1000000 : Nat) : Int)) = pw + ((min N 1000000 : Nat) : Int) := wrap_i64 (by omega) (by omega)
          simp only [if_neg hm, letV_eq, bindO_ok, unc_cons, asI_int, un0_nil, w3]
          rw [show e + 1 + sgn l + wh isDig (l.drop (sgn l)) = e + (1 + sgn l + wh isDig (l.drop (sgn l))) by omega]
    · have hc' : (c == 101 || c == 69) = false := by simpa using hc
      simp only [hc', ifB_false, bindO_ok, expo, if_neg hc]
      simp
theorem expo_bound (s : List UInt8) : -1000000 ≤ (expo s).2 ∧ (expo s).2 ≤ 1000000 := by
  unfold expo
  split
  · simp
  · split
    · dsimp only
      split
      · simp
      · dsimp only
        split <;> omega
    · simp
theorem rnumber {s : List UInt8} (hs : s.length ≤ 1000000) (h1 : 1 ≤ wh isDig s) : (orc vE).bare 86 [.str s] = some (.tup [.int .u8 ((number s).1 : Int), .int .i64 ((number s).2 : Int)]) := by
  refine bare_of rfl ((g86_eq _).trans ?_)
  have l1 : loopO (g86_L1 s) ([.int .i64 0], St.mk 0 0 Tr.leaf) = some (0, [.int .i64 ((wh isDig s : Nat) : Int)], St.mk 0 0 Tr.leaf) := by
    have := num_loop1 hs (St.mk 0 0 Tr.leaf) (n := 0) (l := s) rfl
    rw [Nat.zero_add] at this
    exact this
  have hw := wh_le isDig s
  have hd := head_at s (wh isDig s) 46 (by decide)
  have hd' : ((((s.getD (wh isDig s) 0).toNat : Nat) : Int) != 46) = !(decide ((s.drop (wh isDig s)).head? = some 46)) := by
    unfold bne
    rw [← hd, show ((((s.getD (wh isDig s) 0).toNat : Nat) : Int) == 46) = (s.getD (wh isDig s) 0 == 46) from byte_beq _ 46]
  simp only [g86, asS_str, l1, bindO_ok, unc_cons, asI_int, un0_nil, call_at, hd']
  have hnum : number s = if (s.drop (wh isDig s)).head? = some 46 then (if wh isDig s + wh isDig (s.drop (wh isDig s + 1)) > 15 ∨ (expo (s.drop (wh isDig s + 1 + wh isDig (s.drop (wh isDig s + 1))))).2 - (wh isDig (s.drop (wh isDig s + 1)) : Int) < -22 ∨ (expo (s.drop (wh isDig s + 1 + wh isDig (s.drop (wh isDig s + 1))))).2 - (wh isDig (s.drop (wh isDig s + 1)) : Int) > 22 then 9 else 6, wh isDig s + 1 + wh isDig (s.drop (wh isDig s + 1)) + (expo (s.drop (wh isDig s + 1 + wh isDig (s.drop (wh isDig s + 1))))).1) else (5, wh isDig s) := rfl
  rw [hnum]
  by_cases h46 : (s.drop (wh isDig s)).head? = some 46
  · have hlt : wh isDig s < s.length := by
      rcases Nat.lt_or_ge (wh isDig s) s.length with q | q
      · exact q
      · rw [List.drop_of_length_le q] at h46; cases h46
    have l2 := num_loop2 hs (St.mk 0 0 Tr.leaf) (n := wh isDig s + 1) (l := s.drop (wh isDig s + 1)) rfl
    have hk := wh_le isDig (s.drop (wh isDig s + 1))
    rw [List.length_drop] at hk
    generalize hn : wh isDig s = n at *
    generalize hkk : wh isDig (s.drop (n + 1)) = k at *
    have w1 := wrapA1 (show n + 1 ≤ 9223372036854775807 by omega)
    have w2 : IntKind.wrap .i64 (((n + 1 : Nat) : Int) - ((n + 1 + k : Nat) : Int)) = -(k : Int) := by rw [wrap_i64 (by omega) (by omega)]; omega
    have w3 : IntKind.wrap .i64 (((n + 1 + k : Nat) : Int) - 1) = ((n + k : Nat) : Int) := by rw [wrap_i64 (by omega) (by omega)]; omega
    simp only [decide_eq_true h46, Bool.not_true, ifB_false, letV_eq, w1, l2, bindO_ok, unc_cons, asI_int, un0_nil, w2, w3, if_pos h46]
    have re := fun (K : Car → Option AV) => rexpo hs (n + 1 + k) (-(k : Int)) (by omega) (by omega) (by omega) (St.mk 0 0 Tr.leaf) K
    simp only [letV_eq] at re
    rw [re]
    have hb := expo_bound (s.drop (n + 1 + k))
    generalize (expo (s.drop (n + 1 + k))).1 = x1 at *
    generalize (expo (s.drop (n + 1 + k))).2 = x2 at *
    simp only [unc_cons, asI_int, un0_nil]
    by_cases c1 : n + k > 15
    · have q : ((n + k : Nat) : Int) > 15 := by omega
      simp only [ifB_decide, if_pos q, bindO_ok, unc_cons, asB_bool, un0_nil, ifB_true, if_pos (show n + k > 15 ∨ x2 - (k : Int) < -22 ∨ x2 - (k : Int) > 22 from .inl c1)]
      rfl
    · have q : ¬ ((n + k : Nat) : Int) > 15 := by omega
      by_cases c2 : x2 - (k : Int) < -22
      · have q2 : -(k : Int) + x2 < -22 := by omega
        simp only [ifB_decide, if_neg q, if_pos q2, bindO_ok, unc_cons, asB_bool, un0_nil, ifB_true, if_pos (show n + k > 15 ∨ x2 - (k : Int) < -22 ∨ x2 - (k : Int) > 22 from .inr (.inl c2))]
        rfl
      · have q2 : ¬ -(k : Int) + x2 < -22 := by omega
        by_cases c3 : x2 - (k : Int) > 22
        · have q3 : -(k : Int) + x2 > 22 := by omega
          simp only [ifB_decide, if_neg q, if_neg q2, if_pos q3, bindO_ok, unc_cons, asB_bool, un0_nil, if_pos (show n + k > 15 ∨ x2 - (k : Int) < -22 ∨ x2 - (k : Int) > 22 from .inr (.inr c3))]
          rfl
        · have q3 : ¬ -(k : Int) + x2 > 22 := by omega
          simp only [ifB_decide, if_neg q, if_neg q2, if_neg q3, bindO_ok, unc_cons, asB_bool, un0_nil, if_neg (show ¬ (n + k > 15 ∨ x2 - (k : Int) < -22 ∨ x2 - (k : Int) > 22) by omega)]
          rfl
  · simp only [decide_eq_false h46, Bool.not_false, ifB_true, if_neg h46]
    rfl
end Go.Proofs.YtflnfagdpoddiaaGreatDoor.Vm
set_option maxRecDepth 100000
set_option linter.unusedSimpArgs false
namespace Go.Proofs.YtflnfagdpoddiaaGreatDoor.Vm
open Go Go.VM Go.Proofs Go.Lex

def wordsL : AV := AV.sl 1 [AV.str [108, 101, 116], AV.str [114, 101, 99], AV.str [105, 110], AV.str [102, 117, 110], AV.str [105, 102], AV.str [116, 104, 101, 110], AV.str [101, 108, 115, 101], AV.str [109, 97, 116, 99, 104], AV.str [119, 105, 116, 104], AV.str [116, 114, 117, 101], AV.str [102, 97, 108, 115, 101], AV.str [109, 111, 100]] Perm.shut
def twosL : AV := AV.sl 1 [AV.str [45, 62], AV.str [58, 58], AV.str [60, 62], AV.str [60, 61], AV.str [62, 61], AV.str [43, 46], AV.str [45, 46], AV.str [42, 46], AV.str [47, 46], AV.str [38, 38], AV.str [124, 124]] Perm.shut
theorem strs_idx (l : List (List UInt8)) (hl : l.length ≤ 1000) {j : Nat} {w : List UInt8} (h : l[j]? = some w) {β : Type} (st : St) (K : AV → List Nat → Option β) : idxA 1 (AV.sl 1 (l.map AV.str) .shut) (j : Int) st K = K (.ip [.str w]) [] :=
  (IsSl.shut (z := 1) (es := l.map AV.str) (by rw [List.length_map]; omega)).idx (by rw [List.getElem?_map, h]; rfl) st K
theorem words_idx {j : Nat} {w : List UInt8} (h : words[j]? = some w) {β : Type} (st : St) (K : AV → List Nat → Option β) : idxA 1 wordsL (j : Int) st K = K (.ip [.str w]) [] := strs_idx words (by decide) h st K
theorem twos_idx {j : Nat} {w : List UInt8} (h : twos[j]? = some w) {β : Type} (st : St) (K : AV → List Nat → Option β) : idxA 1 twosL (j : Int) st K = K (.ip [.str w]) [] := strs_idx twos (by decide) h st K
theorem word_loop (w : List UInt8) (st : St) : ∀ (l : List (List UInt8)) (j : Nat), words.drop j = l → l.length + j = 12 →
    loopO (g84_L1 w) ([.bool false, .int .i64 (j : Int)], st) = some (if l.contains w then (1, [.bool true], st) else (0, [.bool false], st))
  | [], j, hd, hj => by
    have q : ¬ (j : Int) < 12 := by simp at hj; omega
    refine loopO_inr ?_
    simp only [g84_L1, unc_cons, asB_bool, asI_int, un0_nil, ifB_decide, if_neg q]
    rfl
  | x :: l, j, hd, hj => by
    obtain ⟨hg, hr, hlt⟩ := drop_cons hd
    have q : (j : Int) < 12 := by simp at hj; omega
    have hidx := fun {β : Type} (st : St) (K : AV → List Nat → Option β) => words_idx hg st K
    unfold wordsL at hidx
    rw [List.contains_cons, BEq.comm]
    cases hx : x == w with
    | true =>
      refine loopO_inr ?_
      simp only [g84_L1, unc_cons, asB_bool, asI_int, un0_nil, ifB_decide, if_pos q, hidx, loadS_ip, takeO_one, bindO_ok, asS_str, hx, ifB_true, Bool.true_or, if_true]
    | false =>
      rw [loopO_inl (s' := ([.bool false, .int .i64 ((j + 1 : Nat) : Int)], st)), word_loop w st l (j + 1) hr (by simp at hj; omega), Bool.false_or]
      simp only [g84_L1, unc_cons, asB_bool, asI_int, un0_nil, ifB_decide, if_pos q, hidx, loadS_ip, takeO_one, bindO_ok, asS_str, hx, ifB_false, letV_eq, wrapA1 (show j + 1 ≤ 9223372036854775807 by simp at hj; omega)]
theorem rword (w : List UInt8) : (orc vE).bare 84 [.str w] = some (.bool (words.contains w)) := by
  refine bare_of rfl ((g84_eq _).trans ?_)
  have e : loopO (g84_L1 w) ([.bool false, .int .i64 0], St.mk 0 0 Tr.leaf) = _ := word_loop w (St.mk 0 0 Tr.leaf) words 0 rfl rfl
  simp only [g84, asS_str]
  rw [e]
  cases words.contains w <;> rfl
theorem call_rword {β : Type} (w : List UInt8) (st : St) (K : Kv β) : callS (orc vE) 84 [.str w] st K = K (.bool (words.contains w)) st q0 := callS_bare st K rfl rfl rfl (rword w)
theorem twos_len {t : List UInt8} {j : Nat} (h : twos[j]? = some t) : t.length = 2 := by
  have hm := List.mem_of_getElem? h
  simp only [twos, List.mem_cons, List.not_mem_nil, or_false] at hm
  rcases hm with rfl | rfl | rfl | rfl | rfl | rfl | rfl | rfl | rfl | rfl | rfl <;> rfl
theorem two_loop (s : List UInt8) (st : St) : ∀ (l : List (List UInt8)) (j : Nat), twos.drop j = l → l.length + j = 11 →
    loopO (g63_L3 s) ([.int .u8 0, .int .i64 0, .int .i64 (j : Int)], st) = some (if l.contains (s.take 2) then (1, [.int .u8 8, .int .i64 2], st) else (0, [.int .u8 0, .int .i64 0], st))
  | [], j, hd, hj => by
    have q : ¬ (j : Int) < 11 := by simp at hj; omega
    refine loopO_inr ?_
    simp only [g63_L3, unc_cons, asI_int, un0_nil, ifB_decide, if_neg q]
    rfl
  | x :: l, j, hd, hj => by
    obtain ⟨hg, hr, hlt⟩ := drop_cons hd
    have q : (j : Int) < 11 := by simp at hj; omega
    have hidx := fun {β : Type} (st : St) (K : AV → List Nat → Option β) => twos_idx hg st K
    have hh := fun {β : Type} (st : St) (K : Kv β) => call_has0 s (twos_len hg) st K
    unfold twosL at hidx
    rw [List.contains_cons]
    cases hx : s.take 2 == x with
    | true =>
      refine loopO_inr ?_
      simp only [g63_L3, unc_cons, asI_int, un0_nil, ifB_decide, if_pos q, hidx, loadS_ip, takeO_one, bindO_ok, asS_str, hh, hx, asB_bool, ifB_true, Bool.true_or, if_true]
    | false =>
      rw [loopO_inl (s' := ([.int .u8 0, .int .i64 0, .int .i64 ((j + 1 : Nat) : Int)], st)), two_loop s st l (j + 1) hr (by simp at hj; omega), Bool.false_or]
      simp only [g63_L3, unc_cons, asI_int, un0_nil, ifB_decide, if_pos q, hidx, loadS_ip, takeO_one, bindO_ok, asS_str, hh, hx, asB_bool, ifB_false, letV_eq, wrapA1 (show j + 1 ≤ 9223372036854775807 by simp at hj; omega)]
theorem one_loop (c : UInt8) (st : St) : ∀ (l : List UInt8) (j : Nat), ones1.drop j = l → l.length + j = 16 →
    loopO (g63_L4 c) ([.int .u8 0, .int .i64 0, .int .i64 (j : Int)], st) = some (if l.contains c then (1, [.int .u8 8, .int .i64 1], st) else (0, [.int .u8 0, .int .i64 0], st))
  | [], j, hd, hj => by
    have q : ¬ (j : Int) < 16 := by simp at hj; omega
    refine loopO_inr ?_
    simp only [g63_L4, unc_cons, asI_int, un0_nil, ifB_decide, if_neg q]
    rfl
  | x :: l, j, hd, hj => by
    obtain ⟨hg, hr, hlt⟩ := drop_cons hd
    have q : (j : Int) < 16 := by simp at hj; omega
    have hi := fun {β : Type} (K : UInt8 → Option β) => idxStr_nat hlt K
    have he : ones1[j] = x := getElem_of hlt hg
    rw [he] at hi
    unfold ones1 at hi
    have hb := byte_beq x c
    rw [List.contains_cons, BEq.comm]
    cases hx : x == c with
    | true =>
      rw [hx] at hb
      refine loopO_inr ?_
      simp only [g63_L4, unc_cons, asI_int, un0_nil, ifB_decide, if_pos q, hi, hb, ifB_true, Bool.true_or, if_true]
    | false =>
      rw [hx] at hb
      rw [loopO_inl (s' := ([.int .u8 0, .int .i64 0, .int .i64 ((j + 1 : Nat) : Int)], st)), one_loop c st l (j + 1) hr (by simp at hj; omega), Bool.false_or]
      simp only [g63_L4, unc_cons, asI_int, un0_nil, ifB_decide, if_pos q, hi, hb, ifB_false, letV_eq, wrapA1 (show j + 1 ≤ 9223372036854775807 by simp at hj; omega)]
theorem rcut {s : List UInt8} (hne : s ≠ []) (hs : s.length ≤ 1000000) : (orc vE).bare 63 [.str s] = some (.tup [.int .u8 ((cut s).1 : Int), .int .i64 ((cut s).2 : Int)]) := by
  cases s with
  | nil => exact absurd rfl hne
  | cons c l =>
  refine bare_of rfl ((g63_eq _).trans ?_)
  have i0 : ∀ {β : Type} (K : UInt8 → Option β), idxStr (c :: l) 0 K = K c := fun K => idxStr_nat (k := 0) (by simp) K
  have hh := fun {β : Type} (st : St) (K : Kv β) => call_has0 (c :: l) (t := [40, 42]) rfl st K
  simp only [g63, asS_str, i0, call_rblank, asB_bool]
  unfold cut
  dsimp only
  cases hb : isBlank c with
  | true =>
    have e : loopO (g63_L1 (c :: l)) ([.int .i64 0], St.mk 0 0 Tr.leaf) = some (0, [.int .i64 ((wh isBlank (c :: l) : Nat) : Int)], St.mk 0 0 Tr.leaf) := by
      have := cut_loop1 hs (St.mk 0 0 Tr.leaf) (n := 0) (l := c :: l) rfl
      rw [Nat.zero_add] at this
      exact this
    simp only [ifB_true, e, bindO_ok, unc_cons, asI_int, un0_nil, if_true]
    rfl
  | false =>
  simp only [ifB_false, hh, asB_bool, Bool.false_eq_true, if_false]
  by_cases hr : (c :: l).take 2 = [40, 42]
  · have hr' : ((c :: l).take 2 == [40, 42]) = true := beq_iff_eq.2 hr
    have hl : 2 ≤ (c :: l).length := by
      have := congrArg List.length hr
      rw [List.length_take] at this
      simp at this; simp; omega
    have e := fun {β : Type} (st : St) (K : Kv β) => callS_bare st K rfl rfl rfl (rremark_ok hs hl)
    simp only [hr', ifB_true, e, if_pos hr]
    cases rem (List.drop 2 (c :: l)) 1 with
    | some n => simp only [unT_tup, nthS_zero, nthS_one, asI_int, asB_bool, ifB_true]; rfl
    | none => simp only [unT_tup, nthS_zero, nthS_one, asI_int, asB_bool, ifB_false]; rfl
  have hr' : ((c :: l).take 2 == [40, 42]) = false := beq_eq_false_iff_ne.2 hr
  simp only [hr', ifB_false, if_neg hr, call_rlow, asB_bool]
  cases hlo : isLow c with
  | true =>
    have e : loopO (g63_L2 (c :: l)) ([.int .i64 0], St.mk 0 0 Tr.leaf) = some (0, [.int .i64 ((wh isBeh (c :: l) : Nat) : Int)], St.mk 0 0 Tr.leaf) := by
      have := cut_loop2 hs (St.mk 0 0 Tr.leaf) (n := 0) (l := c :: l) rfl
      rw [Nat.zero_add] at this
      exact this
    have hw := wh_take isBeh (c :: l)
    simp only [ifB_true, e, bindO_ok, unc_cons, asI_int, un0_nil, uptoS_nat (wh_le isBeh (c :: l)), List.drop_zero, letV_eq, hw, call_rword, asB_bool, if_true]
    unfold nameK
    by_cases h1 : (c :: l).takeWhile isBeh = [95]
    · have h2 : wh isBeh (c :: l) = 1 := by
        show ((c :: l).takeWhile isBeh).length = 1
        rw [h1]; rfl
      rw [h1, h2]; rfl
    · rw [beq_eq_false_iff_ne.2 h1, if_neg h1]
      cases words.contains ((c :: l).takeWhile isBeh) <;> rfl
  | false =>
  simp only [ifB_false, Bool.false_eq_true, if_false, call_rdigit, asB_bool]
  cases hdi : isDig c with
  | true =>
    have e := fun {β : Type} (st : St) (K : Kv β) => callS_bare st K rfl rfl rfl (rnumber hs (by rw [wh_cons, if_pos hdi]; omega))
    simp only [ifB_true, e, unT_tup, nthS_zero, nthS_one, asI_int, if_true]
  | false =>
  have b34 : ((c.toNat : Int) == 34) = (c == 34) := byte_beq c 34
  simp only [ifB_false, Bool.false_eq_true, if_false, b34]
  by_cases hq : c = 34
  · have hq' : (c == 34) = true := beq_iff_eq.2 hq
    have e := fun {β : Type} (st : St) (K : Kv β) => callS_bare st K rfl rfl rfl (rtext_ok (c := c) hs)
    simp only [hq', ifB_true, e, unT_tup, nthS_zero, nthS_one, asI_int, if_pos hq]
  have hq' : (c == 34) = false := beq_eq_false_iff_ne.2 hq
  have e3 : loopO (g63_L3 (c :: l)) ([.int .u8 0, .int .i64 0, .int .i64 0], St.mk 0 0 Tr.leaf) = _ := two_loop (c :: l) (St.mk 0 0 Tr.leaf) twos 0 rfl rfl
  simp only [hq', ifB_false, if_neg hq]
  rw [e3]
  cases ht : twos.contains ((c :: l).take 2) with
  | true => rfl
  | false =>
  have e4 : loopO (g63_L4 c) ([.int .u8 0, .int .i64 0, .int .i64 0], St.mk 0 0 Tr.leaf) = some (if isOne c then (1, [.int .u8 8, .int .i64 1], St.mk 0 0 Tr.leaf) else (0, [.int .u8 0, .int .i64 0], St.mk 0 0 Tr.leaf)) := one_loop c (St.mk 0 0 Tr.leaf) ones1 0 rfl rfl
  simp only [Bool.false_eq_true, if_false, bindO_ok, unc_cons, asI_int, un0_nil, sel2_zero]
  rw [e4]
  cases ho : isOne c with
  | true => rfl
  | false =>
  obtain ⟨p, e, _⟩ := ref_rune (s := c :: l) (by simp)
  have e := fun {β : Type} (st : St) (K : Kv β) => callS_bare st K rfl rfl rfl e
  simp only [Bool.false_eq_true, if_false, bindO_ok, unc_cons, asI_int, un0_nil, sel2_zero, e, unT_tup, nthS_zero, nthS_one]
  rfl
theorem rtoks_loop : ∀ (n : Nat) (s : List UInt8) (st : St) (v : AV) (es : List AV), s.length ≤ n → n ≤ 500000 → Own st 2 23 v es → es.length + n ≤ 500000 →
    ∃ v' st', loopO g37_L1 ([v, .str s], st) = some (0, [v'], st') ∧ Own st' 2 23 v' (es ++ (tokens s).map tok)
  | n, [], st, v, es, _, _, ho, _ => by
    refine ⟨v, st, loopO_inr ?_, by simpa [tokens_nil] using ho⟩
    simp only [g37_L1, unc_cons, asS_str, un0_nil, show (!(([] : List UInt8) == [])) = false from rfl, ifB_false]
  | 0, c :: l, _, _, _, h, _, _, _ => by simp at h
  | n + 1, c :: l, st, v, es, h, hn, ho, he => by
    have hc := cut_le (s := c :: l) (by simp)
    have hcut := fun {β : Type} (st : St) (K : Kv β) => callS_bare st K rfl rfl rfl (rcut (s := c :: l) (by simp) (by omega))
    obtain ⟨v1, st1, o1, k1, x1, a1⟩ := own_app (b := 24) (tok ((cut (c :: l)).1, (c :: l).take (cut (c :: l)).2)) ho (room_of (by omega) (by omega) (by omega))
    have a1 : ∀ {β : Type} (K : Kv β), appS 2 24 23 v [.agg [.int .u8 ((cut (c :: l)).1 : Int), .str ((c :: l).take (cut (c :: l)).2)]] st K = K v1 st1 x1 := fun K => a1 K
    have hd : ((c :: l).drop (cut (c :: l)).2).length ≤ n := by rw [List.length_drop]; omega
    obtain ⟨v2, st2, e2, o2⟩ := rtoks_loop n ((c :: l).drop (cut (c :: l)).2) st1 v1 _ hd (by omega) o1 (by rw [List.length_append]; simp; omega)
    refine ⟨v2, st2, ?_, ?_⟩
    · rw [loopO_inl (s' := ([v1, .str ((c :: l).drop (cut (c :: l)).2)], st1)), e2]
      simp only [g37_L1, unc_cons, asS_str, un0_nil, show (!((c :: l : List UInt8) == [])) = true from rfl, ifB_true, hcut, unT_tup, nthS_zero, nthS_one, asI_int, uptoS_nat hc.2, List.drop_zero, letV_eq, a1, List.take_length]
    · rw [tokens_cons (by simp), List.map_cons]
      rw [List.append_assoc] at o2
      exact o2
theorem call_rvalid {β : Type} (s : List UInt8) (st : St) (K : Kv β) : callS (orc vE) 62 [.str s] st K = K (.bool (validS s)) st q0 := callS_bare st K rfl rfl rfl (ref_valid s)
theorem rtokens_large {s : List UInt8} (h : 65536 < s.length) : (orc vE).bare 37 [.str s] = some (.tup [.nils, .int .i64 40]) := by
  refine bare_of rfl ((g37_eq _).trans ?_)
  have q : (s.length : Int) > 65536 := by omega
  simp only [g37, asS_str, ifB_decide, if_pos q]
theorem rtokens_form {s : List UInt8} (h : s.length ≤ 65536) (hv : validS s = false) : (orc vE).bare 37 [.str s] = some (.tup [.nils, .int .i64 4]) := by
  refine bare_of rfl ((g37_eq _).trans ?_)
  have q : ¬ (s.length : Int) > 65536 := by omega
  simp only [g37, asS_str, ifB_decide, if_neg q, call_rvalid, hv, asB_bool, Bool.not_false, ifB_true]
theorem rtokens_ok {s : List UInt8} (h : s.length ≤ 65536) (hv : validS s = true) : ∃ x, (orc vE).bare 37 [.str s] = some (.tup [x, .int .i64 0]) ∧ IsSl 2 x ((tokens s).map tok) := by
  have q : ¬ (s.length : Int) > 65536 := by omega
  obtain ⟨v', st', e, o⟩ := rtoks_loop s.length s (St.mk 0 0 Tr.leaf) .nils [] (Nat.le_refl _) (by omega) (Own.nils (Nat.le_refl _) _ _) (by simp; omega)
  rw [List.nil_append] at o
  obtain ⟨x, hx, hf⟩ := frz_own2 o (fz_int .i64 0) rfl
  refine ⟨x, bare_of rfl ((g37_eq _).trans ?_), hx⟩
  simp only [g37, asS_str, ifB_decide, if_neg q, call_rvalid, hv, asB_bool, Bool.not_true, ifB_false, e, bindO_ok, unc_cons, un0_nil, hf]
end Go.Proofs.YtflnfagdpoddiaaGreatDoor.Vm
set_option maxRecDepth 100000
set_option linter.unusedSimpArgs false
namespace Go.Proofs.YtflnfagdpoddiaaGreatDoor.Vm
open Go Go.VM Go.Proofs Go.Lex

theorem eq_tok (a b : Int) (s t : List UInt8) : eqT (Env.T vE) 20 23 (.agg [.int .u8 a, .str s]) (.agg [.int .u8 b, .str t]) = .ok (a == b && s == t) := by
  have h : eqT (Env.T vE) 20 23 (.agg [.int .u8 a, .str s]) (.agg [.int .u8 b, .str t]) = (match a == b with | true => (match s == t with | true => .ok true | false => .ok false) | false => .ok false) := rfl
  rw [h]
  cases a == b <;> cases s == t <;> rfl
theorem neq_tok (a b : Int) (s t : List UInt8) : toO (VM.binOp (Env.T vE) BinOp.neq 23 (.agg [.int .u8 a, .str s]) (.agg [.int .u8 b, .str t])) = some (.bool !(a == b && s == t)) := by
  have h : VM.binOp (Env.T vE) BinOp.neq 23 (.agg [.int .u8 a, .str s]) (.agg [.int .u8 b, .str t]) = (do pure (.bool !(← eqT (Env.T vE) 20 23 (.agg [.int .u8 a, .str s]) (.agg [.int .u8 b, .str t])))) := rfl
  rw [h, eq_tok]; rfl
theorem eql_tok (a b : Int) (s t : List UInt8) : toO (VM.binOp (Env.T vE) BinOp.eql 23 (.agg [.int .u8 a, .str s]) (.agg [.int .u8 b, .str t])) = some (.bool (a == b && s == t)) := by
  have h : VM.binOp (Env.T vE) BinOp.eql 23 (.agg [.int .u8 a, .str s]) (.agg [.int .u8 b, .str t]) = (do pure (.bool (← eqT (Env.T vE) 20 23 (.agg [.int .u8 a, .str s]) (.agg [.int .u8 b, .str t])))) := rfl
  rw [h, eq_tok]; rfl
theorem toks_idx {x : AV} {es : List (Nat × List UInt8)} (h : IsSl 2 x (es.map tok)) {j : Nat} {p : Nat × List UInt8} (hj : es[j]? = some p) {β : Type} (st : St) (K : AV → List Nat → Option β) : idxA 2 x (j : Int) st K = K (.ip [.int .u8 (p.1 : Int), .str p.2]) [] :=
  h.idx (by rw [List.getElem?_map, hj]; rfl) st K
def oneT (l : List (Nat × List UInt8)) : (Nat × List UInt8) × Int := match l with | [p] => (p, 0) | _ => ((0, []), 4)
def oneK (s : List UInt8) : (Nat × List UInt8) × Int :=
  if 65536 < s.length then ((0, []), 40) else if validS s = false then ((0, []), 4) else oneT (tokens s)
def oneV (s : List UInt8) : AV := .tup [tok (oneK s).1, .int .i64 (oneK s).2]
theorem cell0 {x : AV} (k : Nat) (t : List UInt8) : ∃ st', st'.get 0 = .ok (.cells 23 [.int .u8 (k : Int), .str t]) ∧
    ∃ fx, ∀ {β : Type} (K : Kv β), storeS (orc vE) 2 (AV.mp 0 0) x [.int .u8 (k : Int), .str t] (St.mk 1 0 (Tr.node (some (VM.Obj.cells 23 [AV.int .u8 0, AV.str []])) Tr.leaf Tr.leaf)) K = K VM.undef st' fx := by
  obtain ⟨st', hg, _, _, fx, hs⟩ := local_var (O := orc vE) (st := St.mk 0 0 Tr.leaf) (t := 23) (z := 2) (old := [.int .u8 0, .str []]) (cs := [.int .u8 (k : Int), .str t]) x rfl rfl (Nat.le_refl _)
  exact ⟨st', hg, fx, fun K => hs K⟩
theorem one_ok (s : List UInt8) : (orc vE).bare 66 [.str s] = some (oneV s) := by
  refine bare_of rfl ((g66_eq _).trans ?_)
  obtain ⟨s0, h0, fx0, e0⟩ := cell0 (x := .agg [.int .u8 0, .str []]) 0 []
  have e0 : ∀ {β : Type} (K : Kv β), storeS (orc vE) 2 (AV.mp 0 0) (.agg [.int .u8 0, .str []]) [.int .u8 0, .str []] (St.mk 1 0 (Tr.node (some (VM.Obj.cells 23 [AV.int .u8 0, AV.str []])) Tr.leaf Tr.leaf)) K = K VM.undef s0 fx0 := e0
  by_cases h1 : 65536 < s.length
  · have c := fun {β : Type} (st : St) (K : Kv β) => callS_bare st K rfl rfl rfl (tokens_large h1)
    simp only [g66, asS_str, c, unT_tup, nthS_zero, nthS_one, asI_int, ifB_bne, show ¬ ((40 : Int) = 0) by omega, if_false, e0, loadS_mp h0, List.drop_zero, takeO2, bindO_ok, unA_agg, unc_cons, un0_nil, oneV, oneK, if_pos h1]
    rfl
  · cases hv : validS s with
    | false =>
      have c := fun {β : Type} (st : St) (K : Kv β) => callS_bare st K rfl rfl rfl (tokens_form (by omega) hv)
      simp only [g66, asS_str, c, unT_tup, nthS_zero, nthS_one, asI_int, ifB_bne, show ¬ ((4 : Int) = 0) by omega, if_false, e0, loadS_mp h0, List.drop_zero, takeO2, bindO_ok, unA_agg, unc_cons, un0_nil, oneV, oneK, if_neg h1, hv, if_true]
      rfl
    | true =>
      obtain ⟨x, hx, hs⟩ := tokens_ok (by omega) hv
      have c := fun {β : Type} (st : St) (K : Kv β) => callS_bare st K rfl rfl rfl hx
      have hone : oneK s = oneT (tokens s) := by
        simp only [oneK, if_neg h1, hv, Bool.true_eq_false, if_false]
      match ht : tokens s with
      | [p] =>
        rw [ht] at hs hone
        have hl : ((([p].map tok).length : Nat) : Int) = 1 := rfl
        obtain ⟨s1, h1, fx1, e1⟩ := cell0 (x := .agg [.int .u8 (p.1 : Int), .str p.2]) p.1 p.2
        have hi : ∀ {β : Type} (st : St) (K : AV → List Nat → Option β), idxA 2 x 0 st K = K (.ip [.int .u8 (p.1 : Int), .str p.2]) [] := fun st K => toks_idx (es := [p]) (j := 0) hs rfl st K
        simp only [g66, asS_str, c, unT_tup, nthS_zero, nthS_one, asI_int, ifB_bne, if_true, hs.len, hl, hi, loadS_ip, takeO2, bindO_ok, unA_agg, unc_cons, un0_nil, e1, loadS_mp h1, List.drop_zero, oneV, hone, oneT]
        rfl
      | [] =>
        rw [ht] at hs hone
        have hl : ¬ ((((([] : List (Nat × List UInt8)).map tok).length : Nat) : Int) = 1) := by simp
        simp only [g66, asS_str, c, unT_tup, nthS_zero, nthS_one, asI_int, ifB_bne, if_true, hs.len, if_neg hl, e0, loadS_mp h0, List.drop_zero, takeO2, bindO_ok, unA_agg, unc_cons, un0_nil, oneV, hone, oneT]
        rfl
      | p :: q :: l =>
        rw [ht] at hs hone
        have hl : ¬ (((((p :: q :: l).map tok).length : Nat) : Int) = 1) := by simp; omega
        simp only [g66, asS_str, c, unT_tup, nthS_zero, nthS_one, asI_int, ifB_bne, if_true, hs.len, if_neg hl, e0, loadS_mp h0, List.drop_zero, takeO2, bindO_ok, unA_agg, unc_cons, un0_nil, oneV, hone, oneT]
        rfl
end Go.Proofs.YtflnfagdpoddiaaGreatDoor.Vm
set_option maxRecDepth 100000
set_option linter.unusedSimpArgs false
namespace Go.Proofs.YtflnfagdpoddiaaGreatDoor.Vm
open Go Go.VM Go.Proofs Go.Lex

theorem call_one {β : Type} (s : List UInt8) (st : St) (K : Kv β) : callS (orc vE) 66 [.str s] st K = K (oneV s) st q0 := callS_bare st K rfl rfl rfl (one_ok s)
theorem both (s : List UInt8) : ∃ (x y : AV) (es : List (Nat × List UInt8)) (e : Int), (orc vE).bare 34 [.str s] = some (.tup [x, .int .i64 e]) ∧ (orc vE).bare 37 [.str s] = some (.tup [y, .int .i64 e]) ∧ IsSl 2 x (es.map tok) ∧ IsSl 2 y (es.map tok) := by
  by_cases h1 : 65536 < s.length
  · exact ⟨.nils, .nils, [], 40, tokens_large h1, rtokens_large h1, IsSl.nils, IsSl.nils⟩
  · cases hv : validS s with
    | false => exact ⟨.nils, .nils, [], 4, tokens_form (by omega) hv, rtokens_form (by omega) hv, IsSl.nils, IsSl.nils⟩
    | true =>
      obtain ⟨x, hx, h⟩ := tokens_ok (by omega) hv
      obtain ⟨y, hy, k⟩ := rtokens_ok (by omega) hv
      exact ⟨x, y, tokens s, 0, hx, hy, h, k⟩
end Go.Proofs.YtflnfagdpoddiaaGreatDoor.Vm
set_option maxRecDepth 100000
set_option linter.unusedSimpArgs false
set_option maxHeartbeats 1000000
namespace Go.Proofs.YtflnfagdpoddiaaGreatDoor.Vm
open Go Go.VM Go.Proofs Go.Lex

theorem isB_keeps {st st' : St} {T u8 : TypeId} {p : Nat} {pre post : List AV} {out : List UInt8} (h : IsB st T u8 p pre post out) (k : Keeps st st' (fun _ => False)) : IsB st' T u8 p pre post out := by
  obtain ⟨a0, a1, h1, h2, h3, h4⟩ := h
  refine ⟨a0, a1, k.old _ _ (fun h => h) h1, h2, ?_, by rw [k.ro]; exact h4⟩
  rcases h3 with h3 | ⟨n, e, hk, hr, hn⟩
  · exact .inl h3
  · exact .inr ⟨n, e, k.old _ _ (fun h => h) hk, by rw [k.ro]; exact hr, hn⟩
theorem isB_ro {st : St} {T u8 : TypeId} {p : Nat} {pre post : List AV} {out : List UInt8} (h : IsB st T u8 p pre post out) : st.ro ≤ st.h := by
  obtain ⟨a0, a1, g, _, _, hr⟩ := h
  exact Nat.le_trans hr (Nat.le_of_lt (St.get_ok.1 g).1)
theorem write_str {st : St} {out s : List UInt8} (h : IsB st 74 5 0 [] [] out) (hl : out.length + s.length ≤ 1000000000) :
    ∃ st', IsB st' 74 5 0 [] [] (out ++ s) ∧ ∃ v fx, ∀ {β : Type} (K : Kv β), callS (orc vE) 44 [.mp 0 0, .str s] st K = K v st' fx := by
  obtain ⟨st', e, hB, _⟩ := bWrite_ok (O := orc vE) (L := [(73, 2, 0), (74, 2, 0)]) (s := s) h rfl (by omega) (isB_ro h)
  have e : w44 (.mp 0 0) (.str s) st = _ := e
  exact ⟨st', hB, _, _, fun K => callS_wide K rfl rfl (wide_of ((w44_eq _ _ _).trans e))⟩
theorem join_loop {x : AV} {es : List (Nat × List UInt8)} (hx : IsSl 2 x (es.map tok)) : ∀ (l : List (Nat × List UInt8)) (j : Nat) (st : St) (out : List UInt8), es.drop j = l → IsB st 74 5 0 [] [] out → j + l.length ≤ 1000000 → out.length + (l.map (·.2)).flatten.length ≤ 1000000 →
    ∃ st', loopO (g30_L1 x (es.map tok).length) ([.int .i64 (j : Int)], st) = some (0, [], st') ∧ IsB st' 74 5 0 [] [] (out ++ (l.map (·.2)).flatten)
  | [], j, st, out, hd, hB, _, _ => by
    have := List.drop_eq_nil_iff.1 hd
    have q : ¬ (j : Int) < ((es.map tok).length : Int) := by rw [List.length_map]; omega
    refine ⟨st, loopO_inr ?_, by simpa using hB⟩
    simp only [g30_L1, unc_cons, asI_int, un0_nil, ifB_decide, if_neg q]
  | p :: l, j, st, out, hd, hB, hj, hl => by
    obtain ⟨hg, hr, hlt⟩ := drop_cons hd
    have q : (j : Int) < ((es.map tok).length : Int) := by rw [List.length_map]; omega
    simp only [List.map_cons, List.flatten_cons, List.length_append, List.length_cons] at hj hl
    obtain ⟨s1, g1, k1, n1, fx1, e1⟩ := local_var (O := orc vE) (st := st) (t := 23) (z := 2) (old := [.int .u8 0, .str []]) (cs := [.int .u8 (p.1 : Int), .str p.2]) (.agg [.int .u8 (p.1 : Int), .str p.2]) rfl rfl (isB_ro hB)
    obtain ⟨s2, hB2, v2, fx2, e2⟩ := write_str (s := p.2) (isB_keeps hB k1) (by omega)
    obtain ⟨s3, e3, hB3⟩ := join_loop hx l (j + 1) s2 (out ++ p.2) hr hB2 (by omega) (by rw [List.length_append]; omega)
    refine ⟨s3, ?_, by simpa using hB3⟩
    rw [loopO_inl (s' := ([.int .i64 ((j + 1 : Nat) : Int)], s2)), e3]
    simp only [g30_L1, unc_cons, asI_int, un0_nil, ifB_decide, if_pos q, toks_idx hx hg, loadS_ip, takeO2, bindO_ok, unA_agg, asS_str, letSt_eq, e1, loadS_mp g1, List.drop_succ_cons, List.drop_zero, takeO_one, e2, letV_eq, wrapA1 (show j + 1 ≤ 9223372036854775807 by omega)]
theorem join_ok {x : AV} {es : List (Nat × List UInt8)} (hx : IsSl 2 x (es.map tok)) (h1 : es.length ≤ 1000000) (h2 : (es.map (·.2)).flatten.length ≤ 1000000) : (orc vE).bare 30 [x] = some (.str (es.map (·.2)).flatten) := by
  refine bare_of rfl ((g30_eq _).trans ?_)
  have h0 : IsB (St.mk 1 0 (Tr.node (some (VM.Obj.cells 74 [AV.nilp, AV.nils])) Tr.leaf Tr.leaf)) 74 5 0 [] [] [] := ⟨.nilp, .nils, rfl, .inl rfl, .inl ⟨rfl, rfl⟩, Nat.le_refl _⟩
  obtain ⟨st', e, hB⟩ := join_loop hx es 0 _ [] rfl h0 (by omega) (by simpa using h2)
  rw [List.nil_append] at hB
  have e : loopO (g30_L1 x (es.map tok).length) ([.int .i64 0], St.mk 1 0 (Tr.node (some (VM.Obj.cells 74 [AV.nilp, AV.nils])) Tr.leaf Tr.leaf)) = _ := e
  obtain ⟨fx, e2⟩ := bstring_ok (O := orc vE) hB (by omega) (fun v _ _ => asS v fun l => some (AV.str l))
  simp only [g30, hx.len]
  rw [e]
  simp only [bindO_ok, un0_nil]
  exact e2
theorem call_join {β : Type} {x : AV} {es : List (Nat × List UInt8)} (hx : IsSl 2 x (es.map tok)) (h1 : es.length ≤ 1000000) (h2 : (es.map (·.2)).flatten.length ≤ 1000000) (st : St) (K : Kv β) : callS (orc vE) 30 [x] st K = K (.str (es.map (·.2)).flatten) st q0 :=
  callS_bare st K rfl (by simp only [List.map_cons, List.map_nil, hx.strip]) (by simp [bares, VM.bare.bareAll, hx.bare]) (join_ok hx h1 h2)
end Go.Proofs.YtflnfagdpoddiaaGreatDoor.Vm
set_option maxRecDepth 100000
set_option linter.unusedSimpArgs false
namespace Go.Proofs.YtflnfagdpoddiaaGreatDoor.Vm
open Go Go.VM Go.Proofs Go.Lex Go.Parse

mutual
def IsN : T → AV → Prop
  | .mk k tk tx l, v => ∃ x es, v = .agg [.int .u8 (k : Int), .int .u8 (tk : Int), .str tx, x] ∧ IsSl 4 x es ∧ IsNs l es
def IsNs : List T → List AV → Prop
  | [], es => es = []
  | t :: l, es => ∃ e r, es = e :: r ∧ IsN t e ∧ IsNs l r
end
theorem IsNs.nil : IsNs [] [] := by simp only [IsNs]
theorem IsNs.cons {t : T} {l : List T} {e : AV} {r : List AV} (h : IsN t e) (hs : IsNs l r) : IsNs (t :: l) (e :: r) := by
  simp only [IsNs]; exact ⟨e, r, rfl, h, hs⟩
theorem IsNs.app : ∀ {l m : List T} {es fs : List AV}, IsNs l es → IsNs m fs → IsNs (l ++ m) (es ++ fs)
  | [], _, _, _, h, k => by simp only [IsNs] at h; subst h; exact k
  | t :: l, _, _, _, h, k => by
    simp only [IsNs] at h
    obtain ⟨e, r, rfl, h1, h2⟩ := h
    exact IsNs.cons h1 (IsNs.app h2 k)
theorem IsNs.len : ∀ {l : List T} {es : List AV}, IsNs l es → es.length = l.length
  | [], _, h => by simp only [IsNs] at h; subst h; rfl
  | t :: l, _, h => by
    simp only [IsNs] at h
    obtain ⟨e, r, rfl, h1, h2⟩ := h
    simp [IsNs.len h2]
def IsK (x : AV) (es : List AV) : Prop := IsSl 4 x es ∨ (es.length ≤ 9223372036854775807 ∧ ∃ k, x = .sl 4 es (.own k))
theorem IsK.one {x : AV} {es : List AV} (h : IsK x es) : VM.one x = true := by
  rcases h with h | ⟨_, k, rfl⟩
  · exact h.one
  · rfl
theorem IsK.asOne {β : Type} {x : AV} {es : List AV} (h : IsK x es) (K : Option β) : asOne x K = K := asOne_of h.one K
theorem IsK.fit {x : AV} {es : List AV} (h : IsK x es) : ∃ x', IsSl 4 x' es ∧ ∀ {β : Type} (K : AV → Option β), fit1 x K = K x' := by
  rcases h with h | ⟨hl, k, rfl⟩
  · exact ⟨x, h, fun K => h.fit1 K⟩
  · exact ⟨.sl 4 es .wide, IsSl.wide hl, fun K => rfl⟩
theorem IsK.own {st : St} {e : TypeId} {x : AV} {es : List AV} (h : Own st 4 e x es) : IsK x es := by
  rcases h.2.2 with ⟨rfl | rfl, rfl⟩ | rfl | ⟨k, rfl, _, _⟩
  · exact .inl IsSl.nils
  · exact .inl IsSl.emp
  · exact .inl (IsSl.shut h.2.1)
  · exact .inr ⟨h.2.1, k, rfl⟩
theorem IsK.elems {β : Type} {x : AV} {es : List AV} (h : IsK x es) (K : List AV → Option β) : elemsS x K = K es := by
  rcases h with h | ⟨_, k, rfl⟩
  · exact h.elems K
  · rfl
structure VN (t : T) (v : AV) : Prop where
  ex : ∃ k tk tx l x es, t = .mk k tk tx l ∧ v = .agg [.int .u8 (k : Int), .int .u8 (tk : Int), .str tx, x] ∧ IsK x es ∧ IsNs l es
structure Nd (t : T) (k tk : Nat) (tx : List UInt8) (x : AV) : Prop where
  ex : ∃ l es, t = .mk k tk tx l ∧ IsK x es ∧ IsNs l es
theorem Nd.one {t : T} {k tk : Nat} {tx : List UInt8} {x : AV} (h : Nd t k tk tx x) : VM.one x = true := by
  obtain ⟨l, es, _, hk, _⟩ := h.ex
  exact hk.one
theorem Nd.asOne {t : T} {k tk : Nat} {tx : List UInt8} {x : AV} (h : Nd t k tk tx x) {β : Type} (K : Option β) : asOne x K = K := asOne_of h.one K
theorem Nd.fit {t : T} {k tk : Nat} {tx : List UInt8} {x : AV} (h : Nd t k tk tx x) : ∃ x', IsN t (.agg [.int .u8 (k : Int), .int .u8 (tk : Int), .str tx, x']) ∧ ∀ {β : Type} (K : AV → Option β), fit1 x K = K x' := by
  obtain ⟨l, es, rfl, hk, hn⟩ := h.ex
  obtain ⟨x', hx, hf⟩ := hk.fit
  exact ⟨x', by simp only [IsN]; exact ⟨x', es, rfl, hx, hn⟩, hf⟩
theorem VN.cells {t : T} {v : AV} (h : VN t v) : ∃ (k tk : Nat) (tx : List UInt8) (x : AV), v = .agg [.int .u8 (k : Int), .int .u8 (tk : Int), .str tx, x] ∧ Nd t k tk tx x := by
  obtain ⟨k, tk, tx, l, x, es, rfl, rfl, hk, hn⟩ := h.ex
  exact ⟨k, tk, tx, x, rfl, ⟨⟨l, es, rfl, hk, hn⟩⟩⟩
theorem lvN (st : St) (k tk : Int) (tx : List UInt8) (x : AV) (h : st.ro ≤ st.h) : ∃ st', st'.get st.h = .ok (.cells 26 [.int .u8 k, .int .u8 tk, .str tx, x]) ∧ Keeps st st' (fun _ => False) ∧ st'.h = st.h + 1 ∧ ∃ fx, ∀ {β : Type} (K : Kv β), storeS (orc vE) 4 (AV.mp st.h 0) (.agg [.int .u8 k, .int .u8 tk, .str tx, x]) [.int .u8 k, .int .u8 tk, .str tx, x] (st.add (.cells 26 [.int .u8 0, .int .u8 0, .str [], .nils])) K = K VM.undef st' fx := by
  obtain ⟨st', g, k1, n, fx, e⟩ := local_var (O := orc vE) (st := st) (t := 26) (z := 4) (old := [.int .u8 0, .int .u8 0, .str [], .nils]) (cs := [.int .u8 k, .int .u8 tk, .str tx, x]) (.agg [.int .u8 k, .int .u8 tk, .str tx, x]) rfl rfl h
  exact ⟨st', g, k1, n, fx, e⟩
theorem pvN {st : St} {id : Nat} {old : List AV} (hg : st.get id = .ok (.cells 26 old)) (ho : old.length = 4) (k tk : Int) (tx : List UInt8) (x : AV) (hro : st.ro ≤ id) : ∃ st', st'.get id = .ok (.cells 26 [.int .u8 k, .int .u8 tk, .str tx, x]) ∧ Keeps st st' (· = id) ∧ st'.h = st.h ∧ ∃ fx, ∀ {β : Type} (K : Kv β), storeS (orc vE) 4 (AV.mp id 0) (.agg [.int .u8 k, .int .u8 tk, .str tx, x]) [.int .u8 k, .int .u8 tk, .str tx, x] st K = K VM.undef st' fx := by
  obtain ⟨st', g, k1, n, fx, e⟩ := var_put (O := orc vE) (.agg [.int .u8 k, .int .u8 tk, .str tx, x]) hg ho (cs := [.int .u8 k, .int .u8 tk, .str tx, x]) rfl hro
  exact ⟨st', g, k1, n, fx, e⟩
theorem Keeps.join {a b c : St} {p q : Nat → Prop} (h : Keeps a b p) (k : Keeps b c q) (hq : ∀ j, q j → p j ∨ a.h ≤ j) : Keeps a c p :=
  ⟨k.ro.trans h.ro, Nat.le_trans h.h k.h, fun j o hj hg => k.old j o (fun e => by
    rcases hq j e with h1 | h1
    · exact hj h1
    · have := (St.get_ok.1 hg).1
      omega) (h.old j o hj hg)⟩
abbrev ND : TypeId := 26
abbrev z4 : List AV := [.int .u8 0, .int .u8 0, .str [], .nils]
def unN {β : Type} (v : AV) (K : Int → Int → List UInt8 → AV → Option β) : Option β := unA v fun l => unc l fun v1 l => asI .u8 v1 fun a => unc l fun v2 l => asI .u8 v2 fun b => unc l fun v3 l => asS v3 fun s => unc l fun v4 l => un0 l (K a b s v4)
theorem unN_agg {β : Type} (a b : Int) (s : List UInt8) (y : AV) (K : Int → Int → List UInt8 → AV → Option β) : unN (.agg [.int .u8 a, .int .u8 b, .str s, y]) K = K a b s y := by
  simp only [unN, unA_agg, unc_cons, asI_int, asS_str, un0_nil]
theorem nat_beq (a b : Nat) : ((a : Int) == (b : Int)) = (a == b) := by
  by_cases h : a = b
  · rw [h]; simp
  · rw [beq_eq_false_iff_ne.2 h, beq_eq_false_iff_ne.2 (show ¬ (a : Int) = (b : Int) by omega)]
section
variable {β : Type} {Q : β → Prop} {t : T}
theorem _root_.Go.VM.Goes.two {k tk : Nat} {tx : List UInt8} {y : AV} (hn : Nd t k tk tx y) {e : Option β} (g : Goes e Q) : Goes (asOne y e) Q := Goes.step (hn.asOne e) g
end
theorem freeze_nd {t : T} {k tk : Nat} {tx : List UInt8} {y : AV} (h : Nd t k tk tx y) : ∃ y', IsN t (.agg [.int .u8 (k : Int), .int .u8 (tk : Int), .str tx, y']) ∧ ∀ (st : St) (n : Nat), VM.freeze st 0 (n + 2) (.agg [.int .u8 (k : Int), .int .u8 (tk : Int), .str tx, y]) = .ok (.agg [.int .u8 (k : Int), .int .u8 (tk : Int), .str tx, y']) := by
  obtain ⟨l, es, rfl, hk, hns⟩ := h.ex
  rcases hk with hx | ⟨hl, j, rfl⟩
  · refine ⟨y, by simp only [IsN]; exact ⟨y, es, rfl, hx, hns⟩, fun st n => ?_⟩
    refine fz_agg (d := 1) (fun c hc => ?_) st 0 (n + 2) (by omega)
    simp only [List.mem_cons, List.mem_nil_iff, or_false] at hc
    rcases hc with rfl | rfl | rfl | rfl
    · exact fz_int _ _
    · exact fz_int _ _
    · exact fz_str _
    · exact fz_sl hx
  · exact ⟨.sl 4 es .wide, by simp only [IsN]; exact ⟨_, es, rfl, IsSl.wide hl, hns⟩, fun st n => rfl⟩
theorem isN_one {t : T} {v : AV} (h : IsN t v) : VM.bare v = true ∧ VM.strip v = v := by
  cases t with
  | mk k tk tx l =>
    simp only [IsN] at h
    obtain ⟨x, es, rfl, hx, _⟩ := h
    refine ⟨?_, rfl⟩
    rw [bare_agg]
    simp only [bares_cons, hx.bare]
    rfl
section
variable {t : T}
theorem isN_open {t : T} {v : AV} (h : IsN t v) : ∃ (k tk : Nat) (tx : List UInt8) (l : List T) (x : AV) (es : List AV), t = .mk k tk tx l ∧ v = .agg [.int .u8 (k : Int), .int .u8 (tk : Int), .str tx, x] ∧ IsSl 4 x es ∧ IsNs l es := by
  cases t with
  | mk k tk tx l =>
    simp only [IsN] at h
    obtain ⟨x, es, rfl, hx, hs⟩ := h
    exact ⟨k, tk, tx, l, x, es, rfl, rfl, hx, hs⟩
theorem IsNs.at : ∀ {l : List T} {es : List AV} {k : Nat} {t : T}, IsNs l es → l[k]? = some t → ∃ e, es[k]? = some e ∧ IsN t e
  | [], _, _, _, _, hk => by simp at hk
  | t :: l, _, 0, _, h, hk => by
    simp only [IsNs] at h
    obtain ⟨a, r, rfl, h1, h2⟩ := h
    obtain rfl : t = _ := by simpa using hk
    exact ⟨a, rfl, h1⟩
  | t :: l, _, k + 1, t', h, hk => by
    simp only [IsNs] at h
    obtain ⟨a, r, rfl, h1, h2⟩ := h
    obtain ⟨e, he, hi⟩ := IsNs.at (k := k) (t := t') h2 (by simpa using hk)
    exact ⟨e, by simpa using he, hi⟩
theorem kid_at {l : List T} {x : AV} {es : List AV} {k : Nat} (hx : IsSl 4 x es) (hs : IsNs l es) (hk : l[k]? = some t) : ∃ (a b : Nat) (s : List UInt8) (y : AV), IsN t (.agg [.int .u8 (a : Int), .int .u8 (b : Int), .str s, y]) ∧ ∀ {β : Type} (st : St) (K : Int → Int → List UInt8 → AV → Option β), (idxA 4 x (k : Int) st fun u _ => loadS 4 true u st fun u _ => unN u K) = K (a : Int) (b : Int) s y := by
  obtain ⟨e, he, hN⟩ := hs.at hk
  obtain ⟨a, b, s, ll, y, es', rfl, rfl, hy, hys⟩ := isN_open hN
  refine ⟨a, b, s, y, hN, fun st K => ?_⟩
  rw [hx.idx he, cells_agg, loadS_ip, takeO4, bindO_ok, unN_agg]
theorem T.ind {Pr : T → Prop} (h : ∀ k tk tx l, (∀ t ∈ l, Pr t) → Pr (.mk k tk tx l)) : ∀ t, Pr t := by
  intro t
  have key : ∀ n (t : T), SizeOf.sizeOf t < n → Pr t := by
    intro n
    induction n with
    | zero => intro t ht; omega
    | succ n ih =>
      intro t ht
      cases t with
      | mk k tk tx l =>
        refine h k tk tx l fun u hu => ih u ?_
        have := List.sizeOf_lt_of_mem hu
        simp only [T.mk.sizeOf_spec] at ht
        omega
  exact key _ t (Nat.lt_succ_self _)
end
abbrev S0 : St := St.mk 0 0 Tr.leaf
theorem callT {F : FuncId} {t : T} {v r : AV} (hN : IsN t v) (hf : vE.full F = false) (h : (orc vE).bare F [v] = some r) {β : Type} (st : St) (K : Kv β) : callS (orc vE) F [v] st K = K r st q0 :=
  callS_bare st K hf (by simp only [List.map_cons, List.map_nil, (isN_one hN).2]) (by simp only [bares_cons, (isN_one hN).1]; rfl) h
theorem nat_bne (a b : Nat) : ((a : Int) != (b : Int)) = (a != b) := by rw [bne, nat_beq, ← bne]
theorem ns_len {l : List T} {x : AV} {es : List AV} (hx : IsSl 4 x es) (hs : IsNs l es) {γ : Type} (K : Nat → Option γ) : lenS x K = K l.length := by rw [hx.len, hs.len]
theorem ns_lt {l : List T} {x : AV} {es : List AV} (hx : IsSl 4 x es) (hs : IsNs l es) : l.length ≤ 9223372036854775807 := by rw [← hs.len]; exact hx.1
end Go.Proofs.YtflnfagdpoddiaaGreatDoor.Vm
set_option maxRecDepth 100000
set_option linter.unusedSimpArgs false
namespace Go.Proofs.YtflnfagdpoddiaaGreatDoor.Vm
open Go Go.VM Go.Proofs Go.Lex Go.Parse Go.Green

def pathI (p : List Nat) : List AV := p.map fun (i : Nat) => .int .i64 (i : Int)
def PathV (x : AV) (p : List Nat) : Prop := (x = .nils ∧ p = []) ∨ ∃ m, x = .sl 1 (pathI p) m ∧ p ≠ []
theorem path_app {x : AV} {p : List Nat} (h : PathV x p) (hp : p.length ≤ 1000000) (i : Nat) (st : St) {β : Type} (K : Kv β) :
    (lenS x fun n => lenS x fun m => sliceS 1 x none (some (n : Int)) (some (m : Int)) fun v => appS 1 8 3 v [.int .i64 (i : Int)] st K) = K (.sl 1 (pathI (p ++ [i])) (.own st.h)) (st.add (.tok (p.length + 1) 3)) ⟨[], .made st.h (.tok (p.length + 1) 3)⟩ := by
  rcases h with ⟨rfl, rfl⟩ | ⟨m, rfl, _⟩
  · have hr : roomOk 1 ⟨.other, 1, 8, [], false, false⟩ = true := room_of (by omega) (by omega) (by omega)
    have ha : appO 1 8 3 .nils [.int .i64 (i : Int)] st = madeO st (.tok 1 3) fun k => .sl 1 [.int .i64 (i : Int)] (.own k) := by
      simp only [appO, List.length_cons, List.length_nil, Nat.zero_add, hr]
    show sliceS 1 .nils none (some ((0 : Nat) : Int)) (some ((0 : Nat) : Int)) (fun v => appS 1 8 3 v [.int .i64 (i : Int)] st K) = _
    have hs : sliceO 1 .nils none (some ((0 : Nat) : Int)) (some ((0 : Nat) : Int)) = some .nils := rfl
    simp only [sliceS, hs, bindO, appS, ha]
    rfl
  · have hl : (pathI p).length = p.length := by simp [pathI]
    have hr : roomOk ((pathI p).length + 1) ⟨.other, 1, 8, [], false, false⟩ = true := room_of (by omega) (by omega) (by omega)
    have hs : sliceO 1 (.sl 1 (pathI p) m) none (some ((pathI p).length : Int)) (some ((pathI p).length : Int)) = some (.sl 1 (pathI p) .shut) := by
      simp only [sliceO, Nat.beq_refl, hiO_nat (Nat.le_refl _), hiO_none, List.take_length, List.drop_zero]
    have ha : appO 1 8 3 (.sl 1 (pathI p) .shut) [.int .i64 (i : Int)] st = madeO st (.tok ((pathI p).length + 1) 3) fun k => .sl 1 (pathI p ++ [.int .i64 (i : Int)]) (.own k) := by
      simp only [appO, List.length_cons, List.length_nil, Nat.zero_add, hr, Nat.beq_refl, Bool.and_self]
    have e : pathI (p ++ [i]) = pathI p ++ [.int .i64 (i : Int)] := by simp [pathI]
    show sliceS 1 (.sl 1 (pathI p) m) none (some ((pathI p).length : Int)) (some ((pathI p).length : Int)) (fun v => appS 1 8 3 v [.int .i64 (i : Int)] st K) = _
    simp only [sliceS, hs, bindO, appS, ha, e, ← hl]
    rfl
theorem path_next {p : List Nat} {i : Nat} {m : Perm} : PathV (.sl 1 (pathI (p ++ [i])) m) (p ++ [i]) := .inr ⟨m, rfl, by simp⟩
structure Rnds (k : Nat) (all : List (List Nat × T)) (I : List (List Nat × T) → St → Prop) (X : List (List Nat × T) → List Nat × T → St → Prop) : Prop where
  ro : ∀ {d st}, I d st → st.ro ≤ st.h
  keep : ∀ {d st st'}, I d st → Keeps st st' (fun _ => False) → I d st'
  round : ∀ {d q r st x v}, d ++ q :: r = all → I d st → PathV x q.1 → IsN q.2 v → ∃ b st', (orc vE).round k [x, v] st = some (.bool b, st') ∧ (b = true → I (d ++ [q]) st') ∧ (b = false → X d q st')
section
variable {k : Nat} {all : List (List Nat × T)} {I : List (List Nat × T) → St → Prop} {X : List (List Nat × T) → List Nat × T → St → Prop}
def Went (I : List (List Nat × T) → St → Prop) (X : List (List Nat × T) → List Nat × T → St → Prop) (d l : List (List Nat × T)) (b : Bool) (st : St) : Prop :=
  (b = true → I (d ++ l) st) ∧ (b = false → ∃ l1 q l2, l = l1 ++ q :: l2 ∧ X (d ++ l1) q st)
def WalkOk (k : Nat) (all : List (List Nat × T)) (I : List (List Nat × T) → St → Prop) (X : List (List Nat × T) → List Nat × T → St → Prop) (t : T) : Prop :=
  ∀ (p : List Nat) (v x : AV) (d r : List (List Nat × T)) (st : St), IsN t v → PathV x p → p.length + depT t ≤ 1000000 → d ++ lv p t ++ r = all → I d st →
    ∃ b st', (orc vE).wide 47 [v, x, .yld k] st = some (.bool b, st') ∧ Went I X d (lv p t) b st'
theorem dep_mem {t : T} : ∀ {l : List T}, t ∈ l → depT t ≤ depL l
  | u :: l, h => by
    rw [depL_cons]
    rcases List.mem_cons.1 h with rfl | h
    · omega
    · have := dep_mem h; omega
theorem bares_yld (u x : AV) (k : Nat) (F : FuncId) : (bares ([u, x, AV.yld k].map strip) && !vE.full F) = false := by
  show (bares [strip u, strip x, .yld k] && _) = false
  simp only [bares_cons]
  show (_ && (_ && (false && true)) && _) = false
  simp
theorem walk_loop (hR : Rnds k all I X) {p : List Nat} {x : AV} (hp : PathV x p) {l : List T} {y : AV} {es : List AV} (hy : IsSl 4 y es) (hs : IsNs l es) (hd : p.length + depL l + 1 ≤ 1000000) (ih : ∀ t ∈ l, WalkOk k all I X t) : ∀ (m : List T) (j : Nat) (d r : List (List Nat × T)) (st : St), l.drop j = m → d ++ lvL p j m ++ r = all → I d st →
    ∃ n b st', loopO (w47_L1 x (.yld k) y l.length) ([.bool false, .int .i64 (j : Int)], st) = some (n, [.bool b], st') ∧ ((n = 0 ∧ I (d ++ lvL p j m) st') ∨ (n = 1 ∧ b = false ∧ ∃ l1 q l2, lvL p j m = l1 ++ q :: l2 ∧ X (d ++ l1) q st'))
  | [], j, d, r, st, hdr, ha, hi => by
    have := List.drop_eq_nil_iff.1 hdr
    have q : ¬ (j : Int) < (l.length : Int) := by omega
    refine ⟨0, false, st, loopO_inr ?_, .inl ⟨rfl, by simpa [lvL] using hi⟩⟩
    simp only [w47_L1, unc_cons, asB_bool, asI_int, un0_nil, ifB_decide, if_neg q]
  | t :: m, j, d, r, st, hdr, ha, hi => by
    obtain ⟨hgt, hr, hlt⟩ := drop_cons hdr
    have q : (j : Int) < (l.length : Int) := by omega
    have hlen := ns_lt hy hs
    obtain ⟨a, b, s, z, hN, e⟩ := kid_at hy hs hgt
    have hz : VM.one z = true := by
      obtain ⟨_, _, _, _, _, _, _, hv, hz, _⟩ := isN_open hN
      injection hv with hv
      injection hv with _ hv; injection hv with _ hv; injection hv with _ hv; injection hv with hv _
      rw [hv]; exact hz.one
    have hro := hR.ro hi
    obtain ⟨s1, g1, k1, n1, fx, e1⟩ := lvN st (a : Int) (b : Int) s z hro
    have hdep := dep_mem (List.mem_of_getElem? hgt)
    have k2 : Keeps s1 (s1.add (.tok (p.length + 1) 3)) (fun _ => False) := Keeps.add _ _ _
    have hi2 := hR.keep (hR.keep hi k1) k2
    simp only [lvL] at ha
    have ha1 : d ++ lv (p ++ [j]) t ++ (lvL p (j + 1) m ++ r) = all := by rw [← ha]; simp
    obtain ⟨c, s3, e3, h3⟩ := ih t (List.mem_of_getElem? hgt) (p ++ [j]) _ (.sl 1 (pathI (p ++ [j])) (.own s1.h)) d _ _ hN path_next (by simp; omega) ha1 hi2
    have c3 : ∀ {γ : Type} (K : Kv γ), callS (orc vE) 47 [.agg [.int .u8 (a : Int), .int .u8 (b : Int), .str s, z], .sl 1 (pathI (p ++ [j])) (.own s1.h), .yld k] (s1.add (.tok (p.length + 1) 3)) K = K (.bool c) s3 _ := fun K => callS_wide K rfl (bares_yld _ _ _ _) e3
    have e' : w47_L1 x (.yld k) y l.length ([.bool false, .int .i64 (j : Int)], st) = ifB (!c) (some (.inr (1, [.bool false], s3))) (some (.inl ([.bool false, .int .i64 ((j + 1 : Nat) : Int)], s3))) := by
      simp only [w47_L1, unc_cons, asB_bool, asI_int, un0_nil, ifB_decide, if_pos q]
      refine (e st _).trans ?_
      have hapart : apart ⟨[st.h], .kept⟩ ⟨[], .made s1.h (.tok (p.length + 1) 3)⟩ = true := by
        show (![st.h].contains s1.h) = true
        rw [n1]; simp
      have hapart2 : apart ⟨[], .made s1.h (.tok (p.length + 1) 3)⟩ ⟨[], .kept⟩ = true := rfl
      simp only [letSt_eq, asOne_of hz, e1, loadS_mp g1, List.drop_zero, takeO4, bindO_ok, unA_agg, unc_cons, asI_int, asS_str, un0_nil]
      refine (path_app hp (by omega) j s1 _).trans ?_
      simp only [hapart, hapart2, Bool.and_self, chk_true, c3, asB_bool, letV_eq, wrapA1 (show j + 1 ≤ 9223372036854775807 by omega)]
    cases c with
    | false =>
      obtain ⟨l1, q, l2, h4, h5⟩ := h3.2 rfl
      refine ⟨1, false, s3, loopO_inr e', .inr ⟨rfl, rfl, l1, q, l2 ++ lvL p (j + 1) m, by simp only [lvL, h4]; simp, h5⟩⟩
    | true =>
      have ha2 : d ++ lv (p ++ [j]) t ++ lvL p (j + 1) m ++ r = all := by rw [← ha]; simp
      obtain ⟨n, b', s4, e4, h4⟩ := walk_loop hR hp hy hs hd ih m (j + 1) _ r s3 hr ha2 (h3.1 rfl)
      refine ⟨n, b', s4, by rw [loopO_inl e', e4], ?_⟩
      rcases h4 with ⟨rfl, h4⟩ | ⟨rfl, rfl, l1, q, l2, h5, h6⟩
      · exact .inl ⟨rfl, by simpa [lvL] using h4⟩
      · exact .inr ⟨rfl, rfl, lv (p ++ [j]) t ++ l1, q, l2, by simp only [lvL, h5]; simp, by simpa using h6⟩
theorem walk_ok (hR : Rnds k all I X) : ∀ t, WalkOk k all I X t := by
  refine T.ind fun kd tk tx l ih => ?_
  intro p v x d r st hN hp hd ha hi
  have hN' := hN
  simp only [IsN] at hN'
  obtain ⟨y, es, rfl, hy, hs⟩ := hN'
  simp only [depT] at hd
  have e1 : ((kd : Int) == 1) = (kd == 1) := nat_beq kd 1
  have e2 : ((kd : Int) == 2) = (kd == 2) := nat_beq kd 2
  by_cases h1 : kd = 1
  · have hl : lv p (.mk kd tk tx l) = [(p, .mk kd tk tx l)] := by simp only [lv, if_pos h1]
    rw [hl] at ha ⊢
    obtain ⟨b, st', e, h2, h3⟩ := hR.round (d := d) (q := (p, .mk kd tk tx l)) (r := r) (by rw [← ha]; simp) hi hp hN
    refine ⟨b, st', wide_of ((w47_eq _ _ _ _).trans ?_), h2, fun hb => ⟨[], _, [], rfl, by rw [List.append_nil]; exact h3 hb⟩⟩
    simp only [w47, unA_agg, unc_cons, asI_int, asS_str, un0_nil, hy.asOne, hy.fit1, e1, beq_iff_eq.2 h1, ifB_true, callF_yld e, asB_bool]
  · by_cases h2 : kd = 2
    · have hl : lv p (.mk kd tk tx l) = [] := by simp only [lv, if_neg h1, if_pos h2]
      rw [hl]
      refine ⟨true, st, wide_of ((w47_eq _ _ _ _).trans ?_), fun _ => by rw [List.append_nil]; exact hi, fun h => by cases h⟩
      simp only [w47, unA_agg, unc_cons, asI_int, asS_str, un0_nil, hy.asOne, hy.fit1, e1, e2, beq_eq_false_iff_ne.2 h1, beq_iff_eq.2 h2, ifB_true, ifB_false]
    · have hl : lv p (.mk kd tk tx l) = lvL p 0 l := by simp only [lv, if_neg h1, if_neg h2]
      rw [hl] at ha ⊢
      obtain ⟨n, b, st', e, h⟩ := walk_loop hR hp hy hs (by omega) ih l 0 d r st rfl ha hi
      have e : loopO (w47_L1 x (.yld k) y l.length) ([.bool false, .int .i64 0], st) = _ := e
      rcases h with ⟨rfl, h⟩ | ⟨rfl, rfl, h⟩
      · refine ⟨true, st', wide_of ((w47_eq _ _ _ _).trans ?_), fun _ => h, fun h => by cases h⟩
        simp only [w47, unA_agg, unc_cons, asI_int, asS_str, un0_nil, hy.asOne, hy.fit1, e1, e2, beq_eq_false_iff_ne.2 h1, beq_eq_false_iff_ne.2 h2, ifB_false, ns_len hy hs, e, bindO_ok, asB_bool, sel2_zero]
      · refine ⟨false, st', wide_of ((w47_eq _ _ _ _).trans ?_), (fun h => by cases h), fun _ => h⟩
        simp only [w47, unA_agg, unc_cons, asI_int, asS_str, un0_nil, hy.asOne, hy.fit1, e1, e2, beq_eq_false_iff_ne.2 h1, beq_eq_false_iff_ne.2 h2, ifB_false, ns_len hy hs, e, bindO_ok, asB_bool, sel2_one]
end
end Go.Proofs.YtflnfagdpoddiaaGreatDoor.Vm
set_option maxRecDepth 100000
set_option linter.unusedSimpArgs false
namespace Go.Proofs.YtflnfagdpoddiaaGreatDoor.Vm
open Go Go.VM Go.Proofs Go.Lex Go.Parse Go.Green

theorem tokF (l : List Tok) {β : Type} (K : List AV → Option β) : fitTs true (l.map tok) K = K (l.map tok) :=
  fitTs_of (fun v hv K => by
    obtain ⟨p, _, rfl⟩ := List.mem_map.1 hv
    rfl) K
theorem tokS (l : List Tok) : sizesOk 2 (l.map tok) = true := sizesOk_of fun v hv => by
  obtain ⟨p, _, rfl⟩ := List.mem_map.1 hv
  rfl
theorem own_apps2 {st : St} {z b : Nat} {e : TypeId} {v : AV} {es : List AV} (new : List AV) (h : Own st z e v es) (hr : new ≠ [] → roomOk (es.length + new.length) ⟨.other, z, b, [], false, false⟩ = true) :
    ∃ v' st', Own st' z e v' (es ++ new) ∧ Keeps st st' (ownerOf v) ∧ (∀ j, ownerOf v' j → ownerOf v j ∨ st.h ≤ j) ∧ ∃ x, ∀ {β : Type} (K : Kv β), appS z b e v new st K = K v' st' x := by
  by_cases hn : new = []
  · subst hn
    refine ⟨v, st, by rw [List.append_nil]; exact h, Keeps.refl _ _, fun j hj => .inl hj, q0, fun K => ?_⟩
    have e : appO z b e v [] st = some (v, st, q0) := by
      rcases h.2.2 with ⟨rfl | rfl, _⟩ | rfl | ⟨k, rfl, _⟩ <;> rfl
    exact appS_of e K
  · obtain ⟨v', st', x, e1, e2, e3, e4⟩ := app_own (b := b) (new := new) h hn (hr hn)
    exact ⟨v', st', e2, e3, e4, x, fun K => appS_of e1 K⟩
theorem Own.ne {st : St} {z : Nat} {e : TypeId} {v : AV} {ws : List AV} {j : Nat} {o : VM.Obj} (h : Own st z e v ws) (hj : st.get j = .ok o) (ho : ∀ n e, o ≠ .tok n e) : ¬ ownerOf v j := by
  rintro ⟨z, es, rfl⟩
  rcases h with ⟨_, _, ⟨h | h, _⟩ | h | ⟨k, h, hg, _⟩⟩
  · cases h
  · cases h
  · cases h
  · cases h; rw [hj] at hg; cases hg; exact ho _ _ rfl
def TokOk (t : T) : Prop := ∀ v, IsN t v → ∃ x, (orc vE).bare 13 [v] = some x ∧ IsSl 2 x ((toksG t).map tok)
theorem ahead_loop {l : List T} {y : AV} {es : List AV} (hy : IsSl 4 y es) (hs : IsNs l es) (ih : ∀ t ∈ l, TokOk t) {st0 : St} {v0 : AV} : ∀ (m : List T) (j : Nat) (v : AV) (ws : List AV) (st : St), l.drop j = m → Own st 2 23 v ws → ws.length + (toksGL m).length ≤ 1000000 → Keeps st0 st (ownerOf v0) → (∀ j, ownerOf v j → ownerOf v0 j ∨ st0.h ≤ j) →
    ∃ v' st', loopO (w32_L1 y l.length) ([v, .int .i64 (j : Int)], st) = some (0, [v'], st') ∧ Own st' 2 23 v' (ws ++ (toksGL m).map tok) ∧ Keeps st0 st' (ownerOf v0) ∧ (∀ j, ownerOf v' j → ownerOf v0 j ∨ st0.h ≤ j)
  | [], j, v, ws, st, hd, ho, _, hk, hj => by
    have := List.drop_eq_nil_iff.1 hd
    have q : ¬ (j : Int) < (l.length : Int) := by omega
    refine ⟨v, st, loopO_inr ?_, by simpa [toksGL] using ho, hk, hj⟩
    simp only [w32_L1, unc_cons, asI_int, un0_nil, ifB_decide, if_neg q]
  | t :: m, j, v, ws, st, hd, ho, hl, hk, hj => by
    obtain ⟨hgt, hr, hlt⟩ := drop_cons hd
    have q : (j : Int) < (l.length : Int) := by omega
    have hlen := ns_lt hy hs
    obtain ⟨a, b, s, z, hN, e⟩ := kid_at hy hs hgt
    have hz : VM.one z = true := by
      obtain ⟨_, _, _, _, _, _, _, hv, hz, _⟩ := isN_open hN
      injection hv with hv
      injection hv with _ hv; injection hv with _ hv; injection hv with _ hv; injection hv with hv _
      rw [hv]; exact hz.one
    obtain ⟨s1, g1, k1, n1, fx, e1⟩ := lvN st (a : Int) (b : Int) s z ho.1
    obtain ⟨x, hx, hsx⟩ := ih t (List.mem_of_getElem? hgt) _ hN
    simp only [toksGL, List.length_append] at hl
    have ho1 : Own s1 2 23 v ws := own_keep ho k1 fun j _ h => h
    obtain ⟨v2, s2, ho2, k2, hj2, fx2, e2⟩ := own_apps2 (b := 24) ((toksG t).map tok) ho1 fun _ => room_of (by rw [List.length_map]; omega) (by omega) (by omega)
    have hk2 : Keeps st0 s2 (ownerOf v0) := Keeps.join (Keeps.join hk k1 fun j h => h.elim) k2 hj
    have hj3 : ∀ j, ownerOf v2 j → ownerOf v0 j ∨ st0.h ≤ j := fun j h => by
      rcases hj2 j h with h | h
      · exact hj j h
      · exact .inr (Nat.le_trans (Nat.le_trans hk.h k1.h) h)
    obtain ⟨v3, s3, e3, ho3, hk3, hj4⟩ := ahead_loop hy hs ih m (j + 1) v2 _ s2 hr ho2 (by rw [List.length_append, List.length_map]; omega) hk2 hj3
    refine ⟨v3, s3, ?_, by simpa [toksGL] using ho3, hk3, hj4⟩
    rw [loopO_inl (s' := ([v2, .int .i64 ((j + 1 : Nat) : Int)], s2)), e3]
    simp only [w32_L1, unc_cons, asI_int, un0_nil, ifB_decide, if_pos q]
    refine (e st _).trans ?_
    simp only [letSt_eq, asOne_of hz, e1, loadS_mp g1, List.drop_zero, takeO4, bindO_ok, unA_agg, unc_cons, asI_int, asS_str, un0_nil, callT hN rfl hx, hsx.elems, tokF, tokS, chk_true, e2, letV_eq, wrapA1 (show j + 1 ≤ 9223372036854775807 by omega)]
theorem ahead_ok {k tk : Nat} {tx : List UInt8} {l : List T} {y : AV} {es : List AV} (hy : IsSl 4 y es) (hs : IsNs l es) (ih : ∀ t ∈ l, TokOk t) {st : St} {v : AV} {ws : List AV} (ho : Own st 2 23 v ws) (hl : ws.length + (toksGL l).length ≤ 1000000) :
    ∃ v' st', (orc vE).wide 32 [v, .agg [.int .u8 (k : Int), .int .u8 (tk : Int), .str tx, y]] st = some (v', st') ∧ Own st' 2 23 v' (ws ++ (toksGL l).map tok) ∧ Keeps st st' (ownerOf v) ∧ (∀ j, ownerOf v' j → ownerOf v j ∨ st.h ≤ j) := by
  obtain ⟨v', st', e, h1, h2, h3⟩ := ahead_loop hy hs ih (v0 := v) l 0 v ws st rfl ho hl (Keeps.refl _ _) fun j h => .inl h
  have e : loopO (w32_L1 y l.length) ([v, .int .i64 0], st) = _ := e
  refine ⟨v', st', wide_of ((w32_eq _ _ _).trans ?_), h1, h2, h3⟩
  simp only [w32, unA_agg, unc_cons, asI_int, asS_str, un0_nil, hy.asOne, hy.fit1, ns_len hy hs, e, bindO_ok]
  rfl
theorem leaves_ok {k tk : Int} {tx : List UInt8} {x : AV} {es : List AV} (hx : IsSl 4 x es) : (orc vE).bare 31 [.agg [.int .u8 k, .int .u8 tk, .str tx, x]] = some (.fn (.func 46) [] [.ip [.int .u8 k, .int .u8 tk, .str tx, x]]) := by
  refine bare_of rfl ((g31_eq _).trans ?_)
  rcases hx.2 with ⟨rfl | rfl, rfl⟩ | rfl | rfl <;> rfl
theorem range_ok {t : T} {k tk : Int} {tx : List UInt8} {x : AV} {i : Nat} {all : List (List Nat × T)} {I : List (List Nat × T) → St → Prop} {X : List (List Nat × T) → List Nat × T → St → Prop} (hR : Rnds i all I X) (hN : IsN t (.agg [.int .u8 k, .int .u8 tk, .str tx, x])) (hd : depT t ≤ 1000000) (ha : lv [] t = all) {st : St} (hi : I [] st) :
    ∃ b st', (orc vE).wide 46 [.yld i, .ip [.int .u8 k, .int .u8 tk, .str tx, x]] st = some (.tup [], st') ∧ Went I X [] all b st' := by
  subst ha
  obtain ⟨b, st', e, h⟩ := walk_ok hR t [] _ .nils [] [] st hN (.inl ⟨rfl, rfl⟩) (by simpa using hd) (by simp) hi
  refine ⟨b, st', wide_of ((w46_eq _ _ _).trans ?_), h⟩
  have c : ∀ {γ : Type} (K : Kv γ), callS (orc vE) 47 [.agg [.int .u8 k, .int .u8 tk, .str tx, x], .nils, .yld i] st K = K (.bool b) st' _ := fun K => callS_wide K rfl (bares_yld _ _ _ _) e
  simp only [w46, loadS_ip, takeO4, bindO_ok, unA_agg, unc_cons, asI_int, asS_str, un0_nil, c, asB_bool]
end Go.Proofs.YtflnfagdpoddiaaGreatDoor.Vm
set_option maxRecDepth 100000
set_option linter.unusedSimpArgs false
namespace Go.Proofs.YtflnfagdpoddiaaGreatDoor.Vm
open Go Go.VM Go.Proofs Go.Lex Go.Parse Go.Green

noncomputable abbrev lpT (s : Nat) : VM.Obj := lpS vE 13 0 [.mp 0 0] s .normal
theorem lpT_some : (lpOf vE 13 0).isSome = true := by kernel_rfl
structure TkS (k s : Nat) (l : List Tok) (v : AV) (st : St) : Prop where
  out : st.get 0 = .ok (.cells 31 [v])
  own : Own st 2 23 v (l.map tok)
  loop : st.get k = .ok (lpT s)
  ro : st.ro = 0
section
variable {k s : Nat} {l : List Tok} {v : AV} {st st' : St}
theorem TkS.ne (h : TkS k s l v st) : k ≠ 0 := by
  rintro rfl
  have h1 := h.loop
  rw [h.out] at h1
  obtain ⟨imm, ps, a, c, fr, e⟩ := lpS_open lpT_some [.mp 0 0]
  rw [show lpT s = _ from e s .normal] at h1
  cases h1
theorem TkS.lt (h : TkS k s l v st) : k < st.h := (St.get_ok.1 h.loop).1
theorem TkS.lt0 (h : TkS k s l v st) : 0 < st.h := (St.get_ok.1 h.out).1
theorem TkS.keeps (h : TkS k s l v st) (hk : Keeps st st' (fun _ => False)) : TkS k s l v st' :=
  ⟨hk.old _ _ (fun f => f) h.out, own_keep h.own hk fun _ _ f => f, hk.old _ _ (fun f => f) h.loop, by rw [hk.ro]; exact h.ro⟩
theorem TkS.not0 (h : TkS k s l v st) : ¬ ownerOf v 0 := h.own.not h.out
theorem TkS.notk (h : TkS k s l v st) : ¬ ownerOf v k := Own.ne h.own h.loop (lpS_tok lpT_some _ _ _)
theorem TkS.turn (h : TkS k s l v st) (s' : Nat) : TkS k s' l v (st.put k (lpT s')) := by
  have hk : Keeps st (st.put k (lpT s')) (· = k) := Keeps.put rfl
  exact ⟨hk.of_ne h.ne.symm h.out, own_keep h.own hk fun j hj e => h.notk (e ▸ hj), by rw [St.get_put_same h.lt], h.ro⟩
theorem TkS.more (h : TkS k s l v st) {v' : AV} {l' : List Tok} (ho : Own st' 2 23 v' (l'.map tok)) (hk : Keeps st st' (ownerOf v)) :
    ∃ st'', TkS k s l' v' st'' ∧ Keeps st' st'' (· = 0) ∧ ∃ fx, ∀ {β : Type} (K : Kv β), storeS (orc vE) 1 (.mp 0 0) v' [v'] st' K = K VM.undef st'' fx := by
  have g0 := hk.old _ _ h.not0 h.out
  have gk := hk.old _ _ h.notk h.loop
  obtain ⟨s2, g2, k2, n2, fx, e⟩ := var_put (O := orc vE) v' g0 (z := 1) (cs := [v']) rfl rfl (by rw [hk.ro, h.ro]; omega)
  exact ⟨s2, ⟨g2, own_keep ho k2 fun j hj e => ho.not g0 (e ▸ hj), k2.of_ne h.ne gk, by rw [k2.ro, hk.ro]; exact h.ro⟩, k2, fx, e⟩
end
def TkI (k : Nat) (d : List (List Nat × T)) (st : St) : Prop := ∃ v, TkS k 0 (toksV d) v st
theorem callAhead {v x r : AV} {st st' : St} (e : (orc vE).wide 32 [v, x] st = some (r, st')) {β : Type} (K : Kv β) : callS (orc vE) 32 [v, x] st K = K r st' ⟨[], .all st st'⟩ :=
  callS_wide K rfl (by rw [show vE.full 32 = true from rfl]; simp) e
theorem tk_round {k : Nat} {all : List (List Nat × T)} (hb : (toksV all).length ≤ 1000000) (hall : ∀ q ∈ all, q.2.kind = 1 ∧ ∀ u ∈ q.2.kids, TokOk u) : Rnds k all (TkI k) (fun _ _ _ => False) where
  ro := fun ⟨_, h⟩ => by rw [h.ro]; omega
  keep := fun ⟨v, h⟩ hk => ⟨v, h.keeps hk⟩
  round := by
    rintro d ⟨p, t⟩ r st x nv ha ⟨v, h⟩ _ hN
    obtain ⟨kd, tk, tx, l, y, es, rfl, rfl, hy, hs⟩ := isN_open hN
    obtain ⟨hkd, hkids⟩ := hall (p, .mk kd tk tx l) (by rw [← ha]; simp)
    have hkd : kd = 1 := hkd
    have hkids : ∀ u ∈ l, TokOk u := hkids
    subst hkd
    have hto : toksG (.mk 1 tk tx l) = toksGL l ++ (if ¬ (tk = 0 ∧ tx = []) then [(tk, tx)] else []) := by
      simp only [toksG, true_and]; rfl
    have hle : (toksV d).length + (toksG (.mk 1 tk tx l)).length ≤ 1000000 := by
      rw [← ha, toksV_app] at hb
      simp only [List.length_append, toksV, List.map_cons, List.flatten_cons] at hb
      simp only [toksV]
      omega
    rw [hto, List.length_append] at hle
    obtain ⟨s1, g1, k1, n1, fx1, e1⟩ := lvN st ((1 : Nat) : Int) (tk : Int) tx y (by rw [h.ro]; omega)
    have h1 := h.keeps k1
    have h2 := h1.turn 1
    have hne : st.h ≠ k := Nat.ne_of_gt h.lt
    have kp : Keeps s1 (s1.put k (lpT 1)) (· = k) := Keeps.put rfl
    have g2 := kp.of_ne hne g1
    obtain ⟨v3, s3, e3, o3, k3, j3⟩ := ahead_ok (k := 1) (tk := tk) (tx := tx) hy hs hkids h2.own (by rw [List.length_map]; omega)
    rw [← List.map_append] at o3
    obtain ⟨s4, h4, k4, fx4, e4⟩ := h2.more o3 k3
    have g3 := k3.old _ _ (h2.own.not g2) g2
    have g4 := k4.of_ne (Nat.ne_of_gt h.lt0) g3
    have sl1 : ∀ {β : Type} (K : St → Option β), setLoopS k 0 1 .normal s1 K = K (s1.put k (lpT 1)) := fun K => setLoopS_of lpT_some h1.loop K
    have c3 : ∀ {β : Type} (K : Kv β), _ := fun {β : Type} (K : Kv β) => callAhead e3 K
    have ld : ∀ {β : Type} (K : AV → List Nat → Option β), loadS 2 true (.mp st.h 1) s4 K = K (.agg [.int .u8 (tk : Int), .str tx]) [st.h] := fun K => by
      rw [loadS_mp g4]; rfl
    have hneq := neq_tok (tk : Int) 0 tx []
    have fin : ∀ (s' : St) (v' : AV), TkS k 1 (toksV d ++ toksG (.mk 1 tk tx l)) v' s' → (ifB (!((tk : Int) == 0 && tx == [])) (loadS 1 false (.mp 0 0) s4 fun v54 _x => appS 2 24 23 v54 [AV.agg [AV.int .u8 (tk : Int), AV.str tx]] s4 fun v66 st67 _x => asOne v66 (asOne v66 (storeS (orc vE) 1 (.mp 0 0) v66 [v66] st67 fun _x st70 _x_3 => some (([], st70) : Car)))) (some ([], s4))) = some ([], s') →
        ∃ b st', r13_0 k (.mp 0 0) x (.agg [.int .u8 ((1 : Nat) : Int), .int .u8 (tk : Int), .str tx, y]) st = some (.bool b, st') ∧ (b = true → TkI k (d ++ [(p, .mk 1 tk tx l)]) st') ∧ (b = false → False) := by
      intro s' v' h5 e5
      have sl2 : ∀ {β : Type} (K : St → Option β), setLoopS k 1 0 .normal s' K = K (s'.put k (lpT 0)) := fun K => setLoopS_of lpT_some h5.loop K
      refine ⟨true, s'.put k (lpT 0), ?_, fun _ => ⟨v', ?_⟩, fun h => by cases h⟩
      · have e0 : (toksV d).map tok = (toksV d).map tok := rfl
        simp only [r13_0, unA_agg, unc_cons, asI_int, asS_str, un0_nil, letSt_eq, hy.asOne, e1, sl1, loadS_mp h2.out, loadS_mp g2, List.drop_zero, takeO_one, takeO4, bindO_ok, c3, asOne_of o3.one, e4, ld, hneq, asB_bool]
        rw [e5]
        simp only [bindO_ok, un0_nil, sl2]
      · have h6 := h5.turn 0
        have : toksV (d ++ [(p, T.mk 1 tk tx l)]) = toksV d ++ toksG (.mk 1 tk tx l) := by rw [toksV_app]; simp [toksV]
        rw [this]
        exact h6
    have fin2 : ∃ b st', r13_0 k (.mp 0 0) x (.agg [.int .u8 ((1 : Nat) : Int), .int .u8 (tk : Int), .str tx, y]) st = some (.bool b, st') ∧ (b = true → TkI k (d ++ [(p, .mk 1 tk tx l)]) st') ∧ (b = false → False) := by
      by_cases hz : tk = 0 ∧ tx = []
      · refine fin s4 v3 ?_ ?_
        · rw [hto, if_neg (by simp [hz]), List.append_nil]; exact h4
        · rw [hz.1, hz.2]; rfl
      · have hb2 : (!((tk : Int) == 0 && tx == [])) = true := by
          by_cases h0 : tk = 0
          · have : tx ≠ [] := fun h => hz ⟨h0, h⟩
            simp [h0, this]
          · have : ((tk : Int) == 0) = false := beq_eq_false_iff_ne.2 (by omega)
            rw [this]; rfl
        rw [if_pos hz] at hle
        obtain ⟨v5, s5, o5, k5, j5, fx5, e5⟩ := own_apps2 (b := 24) [tok (tk, tx)] h4.own fun _ => room_of (by simp only [List.length_map, List.length_append, List.length_cons, List.length_nil] at hle ⊢; omega) (by omega) (by omega)
        have o5' : Own s5 2 23 v5 ((toksV d ++ toksG (.mk 1 tk tx l)).map tok) := by
          rw [hto, if_pos hz]; simpa using o5
        obtain ⟨s6, h6, k6, fx6, e6⟩ := h4.more o5' k5
        refine fin s6 v5 h6 ?_
        have e5 : ∀ {β : Type} (K : Kv β), appS 2 24 23 v3 [.agg [.int .u8 (tk : Int), .str tx]] s4 K = K v5 s5 fx5 := e5
        simp only [hb2, ifB_true, loadS_mp h4.out, List.drop_zero, takeO_one, bindO_ok, ld, unA_agg, unc_cons, asI_int, asS_str, un0_nil, e5, asOne_of o5.one, e6]
    obtain ⟨b, st', e, h5, h6⟩ := fin2
    exact ⟨b, st', round_of (vs := [.mp 0 0]) h.loop (by rw [h.ro]; omega) ((r13_0_eq _ _ _ _ _).trans e), h5, h6⟩
mutual
theorem lv_cnt : ∀ (t : T) (p : List Nat), ∀ q ∈ lv p t, cntT q.2 ≤ cntT t
  | .mk k tk tx l, p, q, h => by
    simp only [lv] at h
    by_cases h1 : k = 1
    · rw [if_pos h1] at h; simp at h; rw [h]; exact Nat.le_refl _
    · by_cases h2 : k = 2
      · rw [if_neg h1, if_pos h2] at h; cases h
      · rw [if_neg h1, if_neg h2] at h
        have := lv_cntL l p 0 q h
        simp only [cntT]; omega
theorem lv_cntL : ∀ (l : List T) (p : List Nat) (i : Nat), ∀ q ∈ lvL p i l, cntT q.2 ≤ cntL l
  | [], _, _, q, h => by cases h
  | t :: l, p, i, q, h => by
    simp only [lvL] at h
    simp only [cntL]
    rcases List.mem_append.1 h with h | h
    · have := lv_cnt t _ q h; omega
    · have := lv_cntL l p (i + 1) q h; omega
end
theorem cnt_mem {t : T} : ∀ {l : List T}, t ∈ l → cntT t ≤ cntL l
  | u :: l, h => by
    simp only [cntL]
    rcases List.mem_cons.1 h with rfl | h
    · omega
    · have := cnt_mem h; omega
mutual
theorem dep_cnt : ∀ t : T, depT t ≤ cntT t
  | .mk _ _ _ l => by have := dep_cntL l; simp only [depT, cntT]; omega
theorem dep_cntL : ∀ l : List T, depL l ≤ cntL l
  | [] => by simp [depL, cntL]
  | t :: l => by have := dep_cnt t; have := dep_cntL l; simp only [depL, cntL]; omega
end
theorem gtoks_any : ∀ (n : Nat) (t : T), cntT t ≤ n → cntT t ≤ 900000 → TokOk t := by
  intro n
  induction n with
  | zero => intro t h; cases t with | mk k tk tx l => simp only [cntT] at h; omega
  | succ n ih =>
    intro t hn hc v hN
    obtain ⟨kd, tk, tx, l, y, es, rfl, rfl, hy, hs⟩ := isN_open hN
    have hall : ∀ q ∈ lv [] (.mk kd tk tx l), q.2.kind = 1 ∧ ∀ u ∈ q.2.kids, TokOk u := fun q hq => ⟨lv_leaf _ _ q hq, fun u hu => by
      have h1 := lv_cnt _ _ q hq
      obtain ⟨p, t'⟩ := q
      cases t' with
      | mk k' tk' tx' l' =>
        have h2 := cnt_mem (show u ∈ l' from hu)
        simp only [cntT] at h1 hn hc
        exact ih u (by omega) (by omega)⟩
    have htb : (toksV (lv [] (.mk kd tk tx l))).length ≤ 1000000 := by
      rw [toks_lv]
      have := (toks_bound (.mk kd tk tx l)).1
      omega
    have hR := tk_round (k := 1) htb hall
    generalize hs0 : (St.mk 1 0 (Tr.node (some (VM.Obj.cells 31 [AV.nils])) Tr.leaf Tr.leaf)) = s0
    have hi0 : TkI 1 [] (s0.add (lpT 0)) := by
      rw [← hs0]
      refine ⟨.nils, rfl, Own.nils (Nat.zero_le _) _ _, ?_, rfl⟩
      exact St.get_add_new
    obtain ⟨b, s1, e, hw⟩ := range_ok hR hN (by have := dep_cnt (.mk kd tk tx l); omega) rfl hi0
    cases b with
    | false => obtain ⟨_, _, _, _, hf⟩ := hw.2 rfl; exact hf.elim
    | true =>
      obtain ⟨v, h⟩ := hw.1 rfl
      rw [List.nil_append, toks_lv] at h
      have hh : s0.h = 1 := by rw [← hs0]
      have hg : (s1.put 1 VM.Obj.dead).get 0 = .ok (.cells 31 [v]) := by
        rw [St.get_put_ne (by decide)]; exact h.out
      have hk : Keeps s1 (s1.put 1 VM.Obj.dead) (· = 1) := Keeps.put rfl
      have ho : Own (s1.put 1 VM.Obj.dead) 2 23 v ((toksG (.mk kd tk tx l)).map tok) := own_keep h.own hk fun j hj e => h.notk (e ▸ hj)
      obtain ⟨x, hx, hf⟩ := frz_own (β := AV) ho
      refine ⟨x, bare_of rfl ((g13_eq _).trans ?_), hx⟩
      have rg : ∀ {β : Type} (K : Ex → St → Option β), rangeS (orc vE) (.fn (.func 46) [] [.ip [.int .u8 (kd : Int), .int .u8 (tk : Int), .str tx, y]]) (lpT 0) s0 K = K .normal (s1.put 1 .dead) := fun K => by
        rw [rangeS_lp lpT_some (v := .tup []) (st1 := s1) (s := 0) (p := .normal) (vs := [.mp 0 0]) (by rw [hh]; exact e) (by rw [hh]; exact h.loop) (.inl rfl), hh]
      simp only [g13, unA_agg, unc_cons, asI_int, asS_str, un0_nil, hy.asOne, hy.fit1, hs0, callT hN rfl (leaves_ok hy)]
      refine (rg _).trans ?_
      simp only [jumpIf_same, loadS_mp hg, List.drop_zero, takeO_one, bindO_ok]
      exact hf _
theorem gtoks_ok {t : T} (h : cntT t ≤ 900000) : TokOk t := gtoks_any _ t (Nat.le_refl _) h
theorem gtext_ok {t : T} (h1 : cntT t ≤ 900000) (h2 : (textG t).length ≤ 1000000) {v : AV} (hN : IsN t v) : (orc vE).bare 10 [v] = some (.str (textG t)) := by
  obtain ⟨x, e, hx⟩ := gtoks_ok h1 v hN
  obtain ⟨kd, tk, tx, l, y, es, rfl, rfl, hy, hs⟩ := isN_open hN
  refine bare_of rfl ((g10_eq _).trans ?_)
  have hb := (toks_bound (.mk kd tk tx l)).1
  rw [text_toks] at h2
  have cj := fun {β : Type} (st : St) (K : Kv β) => call_join hx (by omega) h2 st K
  simp only [g10, unA_agg, unc_cons, asI_int, asS_str, un0_nil, hy.asOne, hy.fit1, callT hN rfl e, cj]
  rw [text_toks]; rfl
end Go.Proofs.YtflnfagdpoddiaaGreatDoor.Vm
set_option maxRecDepth 100000
set_option linter.unusedSimpArgs false
namespace Go.Proofs.YtflnfagdpoddiaaGreatDoor.Vm
open Go Go.VM Go.Proofs Go.Lex Go.Parse Go.Green

theorem kid_one {t : T} {a b : Int} {s : List UInt8} {z : AV} (hN : IsN t (.agg [.int .u8 a, .int .u8 b, .str s, z])) : ∃ es, IsSl 4 z es := by
  obtain ⟨_, _, _, _, _, es, _, hv, hz, _⟩ := isN_open hN
  injection hv with hv
  injection hv with _ hv; injection hv with _ hv; injection hv with _ hv; injection hv with hv _
  exact ⟨es, hv ▸ hz⟩
mutual
theorem wt_le : ∀ t : T, wt t ≤ 626 * cntT t
  | .mk _ _ tx l => by
    have := wtL_le l (1 + min tx.length 10000 / 16)
    simp only [wt, cntT]
    omega
theorem wtL_le : ∀ (l : List T) (k : Nat), wtL k l ≤ k + 626 * cntL l
  | [], k => by simp [wtL, cntL]
  | t :: l, k => by
    simp only [wtL, cntL]
    split
    · have := wt_le t; have := wtL_le l (k + wt t); omega
    · omega
end
theorem weight_loop {l : List T} {y : AV} {es : List AV} (hy : IsSl 4 y es) (hs : IsNs l es) (ih : ∀ t ∈ l, ∀ v, IsN t v → (orc vE).bare 8 [v] = some (.int .i64 (wt t : Int))) (st : St) : ∀ (m : List T) (j a : Nat), l.drop j = m → a + 626 * cntL m ≤ 1000000000 →
    loopO (g8_L1 y) ([.int .i64 (a : Int), .int .i64 (j : Int)], st) = some (0, [.int .i64 (wtL a m : Int)], st)
  | [], j, a, hd, _ => by
    have := List.drop_eq_nil_iff.1 hd
    have q : ¬ (j : Int) < (l.length : Int) := by omega
    refine loopO_inr ?_
    simp only [g8_L1, unc_cons, asI_int, asB_bool, un0_nil, ns_len hy hs, ifB_decide, if_neg q, bindO_ok, ifB_false, wtL]
  | t :: m, j, a, hd, hb => by
    obtain ⟨hgt, hr, hlt⟩ := drop_cons hd
    have q : (j : Int) < (l.length : Int) := by omega
    have hlen := ns_lt hy hs
    obtain ⟨x, b, s, z, hN, e⟩ := kid_at hy hs hgt
    have c := fun {γ : Type} (st : St) (K : Kv γ) => callT hN rfl (ih t (List.mem_of_getElem? hgt) _ hN) st K
    have hw := wt_le t
    simp only [cntL] at hb
    by_cases ha : a < 1000
    · have ha' : (a : Int) < 1000 := by omega
      have := weight_loop hy hs ih st m (j + 1) (a + wt t) hr (by omega)
      rw [loopO_inl (s' := ([.int .i64 ((a + wt t : Nat) : Int), .int .i64 ((j + 1 : Nat) : Int)], st)), this]
      · simp only [wtL, if_pos ha]
      · simp only [g8_L1, unc_cons, asI_int, asB_bool, un0_nil, ns_len hy hs, ifB_decide, if_pos q, bindO_ok, if_pos ha']
        refine (e st _).trans ?_
        simp only [c, asI_int, letV_eq, wrapA (show a + wt t ≤ 9223372036854775807 by omega), wrapA1 (show j + 1 ≤ 9223372036854775807 by omega)]
    · have ha' : ¬ (a : Int) < 1000 := by omega
      refine loopO_inr ?_
      simp only [g8_L1, unc_cons, asI_int, asB_bool, un0_nil, ns_len hy hs, ifB_decide, if_pos q, bindO_ok, if_neg ha', wtL, if_neg ha]
theorem weight_ok : ∀ (t : T), cntT t ≤ 900000 → ∀ (v : AV), IsN t v → (orc vE).bare 8 [v] = some (.int .i64 (wt t : Int)) := by
  refine T.ind fun k tk tx l ih => ?_
  intro hc v hv
  simp only [IsN] at hv
  obtain ⟨y, es, rfl, hy, hs⟩ := hv
  simp only [cntT] at hc
  have hi : ∀ t ∈ l, ∀ v, IsN t v → (orc vE).bare 8 [v] = some (.int .i64 (wt t : Int)) := fun t ht => ih t ht (by have := cnt_mem ht; omega)
  have h0 : (if (10000 : Int) < (tx.length : Int) then (10000 : Int) else (tx.length : Int)) = ((min tx.length 10000 : Nat) : Int) := by split <;> omega
  have h1 : Int.tdiv ((min tx.length 10000 : Nat) : Int) 16 = ((min tx.length 10000 / 16 : Nat) : Int) := by
    rw [Int.tdiv_eq_ediv_of_nonneg (by omega)]; rfl
  have h2 : IntKind.wrap .i64 (1 + ((min tx.length 10000 / 16 : Nat) : Int)) = ((1 + min tx.length 10000 / 16 : Nat) : Int) := by
    rw [wrap_i64 (by omega) (by omega)]; omega
  have lp := weight_loop hy hs hi S0 l 0 (1 + min tx.length 10000 / 16) rfl (by omega)
  have lp : loopO (g8_L1 y) ([.int .i64 ((1 + min tx.length 10000 / 16 : Nat) : Int), .int .i64 0], S0) = _ := lp
  refine bare_of rfl ((g8_eq _).trans ?_)
  simp only [g8, unA_agg, unc_cons, asI_int, asS_str, un0_nil, hy.asOne, hy.fit1, letV_eq, h0, h1, wrapN (show min tx.length 10000 / 16 ≤ 9223372036854775807 by omega), h2]
  rw [lp]
  simp only [bindO_ok, unc_cons, asI_int, un0_nil, wt]
theorem storeF3 {st : St} {id : Nat} {t : TypeId} {a b c v : AV} (v' : AV) (hg : st.get id = .ok (.cells t [a, b, c, v])) (hro : st.ro ≤ id) :
    ∃ st', st'.get id = .ok (.cells t [a, b, c, v']) ∧ Keeps st st' (· = id) ∧ st'.h = st.h ∧ ∃ fx, ∀ {β : Type} (K : Kv β), storeS (orc vE) 1 (.mp id 3) v' [v'] st K = K VM.undef st' fx := by
  refine ⟨st.put id (.cells t [a, b, c, v']), by rw [St.get_put_same (St.get_ok.1 hg).1], Keeps.put rfl, rfl, ⟨[id], .wrote id (.cells t [a, b, c, v'])⟩, fun K => storeS_at (z := 1) (cs := [v']) (off := 3) hg rfl (Nat.le_of_ble_eq_true rfl) hro K⟩
theorem frz_nd {t : T} {k tk : Nat} {tx : List UInt8} {y : AV} (h : Nd t k tk tx y) : ∃ v, IsN t v ∧ ∀ {β : Type} (st : St) (K : AV → Option β), frzS st 0 (.agg [.int .u8 (k : Int), .int .u8 (tk : Int), .str tx, y]) K = K v := by
  obtain ⟨y', hN, hf⟩ := freeze_nd h
  refine ⟨_, hN, fun st K => ?_⟩
  have e := hf st 98
  simp only [frzS, e, (isN_one hN).1, chk_true]
structure Bd (k tk : Nat) (tx : List UInt8) (l : List T) (st : St) : Prop where
  ex : ∃ v es, st.get 1 = .ok (.cells ND [.int .u8 (k : Int), .int .u8 (tk : Int), .str tx, v]) ∧ Own st 4 ND v es ∧ IsNs l es
  zero : st.get 0 = .ok (.cells ND z4)
  ro : st.ro = 0
theorem given_loop {k tk : Nat} {tx : List UInt8} {l : List T} {y : AV} {es : List AV} (hy : IsSl 4 y es) (hs : IsNs l es) (hl : l.length ≤ 900000) (ih : ∀ t ∈ l, ∀ v, IsN t v → ∃ v', (orc vE).bare 9 [v] = some v' ∧ IsN t v') : ∀ (m p : List T) (st : St), l = p ++ m → Bd k tk tx p st →
    ∃ st', loopO (g9_L1 y) ([.int .i64 (p.length : Int)], st) = some (0, [], st') ∧ Bd k tk tx l st'
  | [], p, st, hd, hb => by
    rw [List.append_nil] at hd
    subst hd
    have q : ¬ (l.length : Int) < (l.length : Int) := by omega
    refine ⟨st, loopO_inr ?_, hb⟩
    simp only [g9_L1, unc_cons, asI_int, un0_nil, ns_len hy hs, ifB_decide, if_neg q]
  | t :: m, p, st, hd, hb => by
    have hgt : l[p.length]? = some t := by rw [hd]; simp
    have hlt : p.length < l.length := by rw [hd]; simp
    have q : (p.length : Int) < (l.length : Int) := by omega
    obtain ⟨a, b, s, z, hN, e⟩ := kid_at hy hs hgt
    obtain ⟨v', e1, hN1⟩ := ih t (List.mem_of_getElem? hgt) _ hN
    obtain ⟨k', tk', tx', l', y', es', ht, rfl, hy', hs'⟩ := isN_open hN1
    obtain ⟨⟨v, ws, g1, ho, hns⟩, g0, hro⟩ := hb
    obtain ⟨v2, s2, ho2, k2, hj2, fx2, e2⟩ := own_apps2 (b := 56) [.agg [.int .u8 (k' : Int), .int .u8 (tk' : Int), .str tx', y']] ho fun _ => room_of (by rw [hns.len]; simp only [List.length_cons, List.length_nil]; omega) (by omega) (by omega)
    have g12 := k2.old _ _ (ho.not g1) g1
    obtain ⟨s3, g3, k3, n3, fx3, e3⟩ := storeF3 v2 g12 (by rw [k2.ro, hro]; omega)
    have hns2 : IsNs (p ++ [t]) (ws ++ [.agg [.int .u8 (k' : Int), .int .u8 (tk' : Int), .str tx', y']]) := IsNs.app hns (IsNs.cons hN1 IsNs.nil)
    have hb3 : Bd k tk tx (p ++ [t]) s3 := ⟨⟨v2, _, g3, own_keep ho2 k3 fun j hj e => ho2.not g12 (e ▸ hj), hns2⟩, k3.of_ne (by decide) (k2.old _ _ (ho.not g0) g0), by rw [k3.ro, k2.ro]; exact hro⟩
    obtain ⟨s4, e4, hb4⟩ := given_loop hy hs hl ih m (p ++ [t]) s3 (by rw [hd]; simp) hb3
    rw [List.length_append, List.length_cons, List.length_nil] at e4
    refine ⟨s4, ?_, hb4⟩
    rw [loopO_inl (s' := ([.int .i64 ((p.length + 1 : Nat) : Int)], s3)), e4]
    simp only [g9_L1, unc_cons, asI_int, un0_nil, ns_len hy hs, ifB_decide, if_pos q, loadS_mp g1, List.drop_succ_cons, List.drop_zero, takeO_one, bindO_ok]
    refine (e st _).trans ?_
    have ha : ∀ l : List Nat, (apart ⟨l, .kept⟩ q0 && (apart ⟨[], .kept⟩ q0 && true)) = true := fun _ => rfl
    simp only [callT hN rfl e1, unA_agg, unc_cons, asI_int, asS_str, un0_nil, ha, chk_true, hy'.asOne, hy'.fit1, e2, asOne_of ho2.one, e3, letV_eq, wrapA1 (show p.length + 1 ≤ 9223372036854775807 by omega)]
theorem given_ok : ∀ (t : T), cntT t ≤ 900000 → ∀ (v : AV), IsN t v → ∃ v', (orc vE).bare 9 [v] = some v' ∧ IsN t v' := by
  refine T.ind fun k tk tx l ih => ?_
  intro hc v hv
  simp only [IsN] at hv
  obtain ⟨y, es, rfl, hy, hs⟩ := hv
  simp only [cntT] at hc
  have hll : ∀ l : List T, l.length ≤ cntL l := by
    intro l
    induction l with
    | nil => simp [cntL]
    | cons t l ih => cases t with | mk a b c d => simp only [cntL, cntT, List.length_cons]; omega
  have hi : ∀ t ∈ l, ∀ v, IsN t v → ∃ v', (orc vE).bare 9 [v] = some v' ∧ IsN t v' := fun t ht => ih t ht (by have := cnt_mem ht; omega)
  have hb0 : Bd k tk tx [] (St.mk 2 0 (Tr.node (some (VM.Obj.cells ND [AV.int .u8 0, AV.int .u8 0, AV.str [], AV.nils])) (Tr.node (some (VM.Obj.cells ND [AV.int .u8 (k : Int), AV.int .u8 (tk : Int), AV.str tx, AV.nils])) Tr.leaf Tr.leaf) Tr.leaf)) :=
    ⟨⟨.nils, [], rfl, Own.nils (Nat.zero_le _) _ _, IsNs.nil⟩, rfl, rfl⟩
  obtain ⟨s1, e1, ⟨w, ws, g1, ho, hns⟩, g0, hro⟩ := given_loop hy hs (by have := hll l; omega) hi l [] _ rfl hb0
  have e1 : loopO (g9_L1 y) ([.int .i64 0], St.mk 2 0 (Tr.node (some (VM.Obj.cells ND [AV.int .u8 0, AV.int .u8 0, AV.str [], AV.nils])) (Tr.node (some (VM.Obj.cells ND [AV.int .u8 (k : Int), AV.int .u8 (tk : Int), AV.str tx, AV.nils])) Tr.leaf Tr.leaf) Tr.leaf)) = _ := e1
  obtain ⟨s2, g2, k2, n2, fx2, e2⟩ := pvN g0 rfl (k : Int) (tk : Int) tx w (by rw [hro]; omega)
  have hnd : Nd (.mk k tk tx l) k tk tx w := ⟨⟨l, ws, rfl, IsK.own ho, hns⟩⟩
  obtain ⟨v', hN', hf⟩ := frz_nd hnd
  refine ⟨v', bare_of rfl ((g9_eq _).trans ?_), hN'⟩
  simp only [g9, unA_agg, unc_cons, asI_int, asS_str, un0_nil, hy.asOne, hy.fit1]
  rw [e1]
  simp only [bindO_ok, un0_nil, loadS_mp g1, List.drop_zero, takeO4, unA_agg, unc_cons, asI_int, asS_str, hnd.asOne, e2, loadS_mp g2, hf]
theorem len_mem {t : T} : ∀ {l : List T}, t ∈ l → lenT t ≤ lenL l
  | u :: l, h => by
    simp only [lenL]
    rcases List.mem_cons.1 h with rfl | h
    · omega
    · have := len_mem h; omega
end Go.Proofs.YtflnfagdpoddiaaGreatDoor.Vm
set_option maxRecDepth 100000
set_option linter.unusedSimpArgs false
namespace Go.Proofs.YtflnfagdpoddiaaGreatDoor.Vm
open Go Go.VM Go.Proofs Go.Lex Go.Parse Go.Green

def eqTok (a b : Tok) : Bool := ((a.1 : Int) == (b.1 : Int)) && a.2 == b.2
def eqTs : List Tok → List Tok → Bool
  | a :: l, b :: m => eqTok a b && eqTs l m
  | _, _ => true
def eqToks (l m : List Tok) : Bool := l.length == m.length && eqTs l m
theorem tlen {x : AV} {es : List Tok} (h : IsSl 2 x (es.map tok)) {γ : Type} (K : Nat → Option γ) : lenS x K = K es.length := by rw [h.len, List.length_map]
theorem tlt {x : AV} {es : List Tok} (h : IsSl 2 x (es.map tok)) : es.length ≤ 9223372036854775807 := by have := h.1; rwa [List.length_map] at this
section
variable {x y : AV} {l m : List Tok} (hx : IsSl 2 x (l.map tok)) (hy : IsSl 2 y (m.map tok)) (hl : l.length = m.length)
include hx hy hl
theorem sequal_loop (st : St) : ∀ (a b : List Tok) (j : Nat), l.drop j = a → m.drop j = b →
    loopO (g35_L1 x y l.length) ([.bool false, .int .i64 (j : Int)], st) = some (if eqTs a b then 0 else 1, [.bool false], st)
  | [], b, j, ha, hb => by
    have := List.drop_eq_nil_iff.1 ha
    have q : ¬ (j : Int) < (l.length : Int) := by omega
    refine loopO_inr ?_
    simp only [g35_L1, unc_cons, asB_bool, asI_int, un0_nil, ifB_decide, if_neg q]
    rfl
  | t :: a, [], j, ha, hb => by
    have h1 := List.drop_eq_nil_iff.1 hb
    have h2 := (drop_cons ha).2.2
    omega
  | t :: a, u :: b, j, ha, hb => by
    obtain ⟨hg, hr, hlt⟩ := drop_cons ha
    obtain ⟨hg', hr', _⟩ := drop_cons hb
    have q : (j : Int) < (l.length : Int) := by omega
    have h1 := tlt hx
    have e : g35_L1 x y l.length ([.bool false, .int .i64 (j : Int)], st) = ifB (!eqTok t u) (some (.inr (1, [.bool false], st))) (some (.inl ([.bool false, .int .i64 ((j + 1 : Nat) : Int)], st))) := by
      simp only [g35_L1, unc_cons, asB_bool, asI_int, un0_nil, ifB_decide, if_pos q, toks_idx hx hg, toks_idx hy hg', loadS_ip, takeO2, bindO_ok, unA_agg, asS_str, neq_tok, letV_eq, wrapA1 (show j + 1 ≤ 9223372036854775807 by omega)]
      rfl
    cases h : eqTok t u with
    | false => rw [h] at e; rw [loopO_inr e]; simp [eqTs, h]
    | true => rw [h] at e; rw [loopO_inl e, sequal_loop st a b (j + 1) hr hr']; simp [eqTs, h]
end
theorem nat_bneI (a b : Nat) : ((a : Int) != (b : Int)) = !(a == b) := by rw [nat_bne]; rfl
theorem sel_end (b : Bool) (st : St) : bindO (some (if b = true then 0 else 1, [AV.bool false], st) : Option (Nat × Car)) (fun c37 => unc (Prod.fst (Prod.snd c37)) fun v38 l39 => asB v38 fun b40 => un0 l39 (sel2 (Prod.fst c37) (some (AV.bool true)) fun _x => some (AV.bool b40))) = some (.bool b) := by
  cases b <;> rfl
theorem sequal_any {x y : AV} {l m : List Tok} (hx : IsSl 2 x (l.map tok)) (hy : IsSl 2 y (m.map tok)) : (orc vE).bare 35 [x, y] = some (.bool (eqToks l m)) := by
  refine bare_of rfl ((g35_eq _ _).trans ?_)
  simp only [g35, tlen hx, tlen hy, nat_bneI, eqToks]
  by_cases hl : l.length = m.length
  · have e : loopO (g35_L1 x y l.length) ([.bool false, .int .i64 0], St.mk 0 0 Tr.leaf) = _ := sequal_loop hx hy hl S0 l m 0 rfl rfl
    simp only [beq_iff_eq.2 hl, Bool.not_true, ifB_false, Bool.true_and]
    rw [e]
    exact sel_end _ _
  · simp only [beq_eq_false_iff_ne.2 hl, Bool.not_false, ifB_true, Bool.false_and]
theorem call2 {F : FuncId} {x y r : AV} {z : Nat} {es fs : List AV} (hx : IsSl z x es) (hy : IsSl z y fs) (hf : vE.full F = false) (h : (orc vE).bare F [x, y] = some r) {β : Type} (st : St) (K : Kv β) : callS (orc vE) F [x, y] st K = K r st q0 :=
  callS_bare st K hf (by simp only [List.map_cons, List.map_nil, hx.strip, hy.strip]) (by simp [bares, VM.bare.bareAll, hx.bare, hy.bare]) h
end Go.Proofs.YtflnfagdpoddiaaGreatDoor.Vm
set_option maxRecDepth 100000
set_option linter.unusedSimpArgs false
namespace Go.Proofs.YtflnfagdpoddiaaGreatDoor.Vm
open Go Go.VM Go.Proofs Go.Lex Go.Parse Go.Green

def oneG (t : Tok) : Bool := ((oneK t.2).2 == 0) && eqTok (oneK t.2).1 t
theorem gone_ok (t : Tok) : (orc vE).bare 48 [.agg [.int .u8 (t.1 : Int), .str t.2]] = some (.bool (oneG t)) := by
  obtain ⟨⟨k, s⟩, e1⟩ : ∃ p, (oneK t.2).1 = p := ⟨_, rfl⟩
  obtain ⟨s1, g1, _, _, fx, e2⟩ := local_var (O := orc vE) (st := St.mk 0 0 Tr.leaf) (t := 23) (z := 2) (old := [.int .u8 0, .str []]) (cs := [.int .u8 (k : Int), .str s]) (.agg [.int .u8 (k : Int), .str s]) rfl rfl (Nat.le_refl _)
  refine bare_of rfl ((g48_eq _).trans ?_)
  simp only [g48, unA_agg, unc_cons, asI_int, asS_str, un0_nil, call_one, oneV, e1, tok, unT_tup, nthS_zero, nthS_one, letSt_eq, e2, oneG]
  cases h : (oneK t.2).2 == 0 <;> simp only [ifB_true, ifB_false, bindO_ok, unc_cons, asB_bool, un0_nil, Bool.false_and, Bool.true_and, loadS_mp g1, List.drop_zero, takeO2, unA_agg, asI_int, asS_str, eql_tok]
  rfl
theorem gahead_ok (t : Tok) : (orc vE).bare 41 [.agg [.int .u8 (t.1 : Int), .str t.2]] = some (.bool (trivB t)) := by
  have e1 : ((t.1 : Int) == 1) = (t.1 == 1) := nat_beq t.1 1
  have e2 : ((t.1 : Int) == 2) = (t.1 == 2) := nat_beq t.1 2
  refine bare_of rfl ((g41_eq _).trans ?_)
  simp only [g41, unA_agg, unc_cons, asI_int, asS_str, un0_nil, e1, e2, trivB]
  cases t.1 == 1 <;> rfl
section
variable {β : Type} (k : Nat) (s : List UInt8) (st : St) (K : Kv β)
theorem call_gone : callS (orc vE) 48 [.agg [.int .u8 (k : Int), .str s]] st K = K (.bool (oneG (k, s))) st q0 := callS_bare st K rfl rfl rfl (gone_ok (k, s))
theorem call_gahead : callS (orc vE) 41 [.agg [.int .u8 (k : Int), .str s]] st K = K (.bool (trivB (k, s))) st q0 := callS_bare st K rfl rfl rfl (gahead_ok (k, s))
end
section
variable {C : FuncId} {pr : T → Bool} {l : List T} {x : AV} {es : List AV} (hx : IsSl 4 x es) (hs : IsNs l es) (hf : vE.full C = false) (hp : vE.prim C = none) (hg : ∀ t ∈ l, ∀ v, IsN t v → (orc vE).bare C [v] = some (.bool (pr t)))
include hx hs hf hp hg
theorem anyf_loop (st : St) : ∀ (m : List T) (j : Nat), l.drop j = m →
    ∃ (k : Nat) (i : Int), loopO (g67_L1 x (.fn (.func C) [] []) l.length) ([.int .i64 0, .int .i64 (j : Int)], st) = some (k, [.int .i64 i], st) ∧ ((k = 0 ∧ m.any pr = false) ∨ (k = 1 ∧ 0 ≤ i ∧ m.any pr = true))
  | [], j, hd => by
    have := List.drop_eq_nil_iff.1 hd
    have q : ¬ (j : Int) < (l.length : Int) := by omega
    refine ⟨0, 0, loopO_inr ?_, .inl ⟨rfl, rfl⟩⟩
    simp only [g67_L1, unc_cons, asI_int, un0_nil, ifB_decide, if_neg q]
  | t :: m, j, hd => by
    obtain ⟨hgt, hr, hlt⟩ := drop_cons hd
    have q : (j : Int) < (l.length : Int) := by omega
    have hlen := ns_lt hx hs
    obtain ⟨a, b, s, y, hN, e⟩ := kid_at hx hs hgt
    have c := hg t (List.mem_of_getElem? hgt) _ hN
    have c2 : ∀ {γ : Type} (st : St) (K : Kv γ), callF (orc vE) (Sx.prim (sx vE 67)) (.fn (.func C) [] []) [.agg [.int .u8 (a : Int), .int .u8 (b : Int), .str s, y]] st K = K (.bool (pr t)) st q0 := fun st K => by
      refine Eq.trans ?_ (callT hN hf c st K)
      show outS (planO (orc vE) (callP vE.prim (.fn (.func C) [] []) _) st) K = _
      simp only [callP, hp]
      rfl
    have e' : g67_L1 x (.fn (.func C) [] []) l.length ([.int .i64 0, .int .i64 (j : Int)], st) = ifB (pr t) (some (.inr (1, [.int .i64 (j : Int)], st))) (some (.inl ([.int .i64 0, .int .i64 ((j + 1 : Nat) : Int)], st))) := by
      simp only [g67_L1, unc_cons, asI_int, un0_nil, ifB_decide, if_pos q]
      refine (e st _).trans ?_
      simp only [c2, asB_bool, letV_eq, wrapA1 (show j + 1 ≤ 9223372036854775807 by omega)]
    cases ht : pr t with
    | true =>
      rw [ht] at e'
      exact ⟨1, j, loopO_inr e', .inr ⟨rfl, by omega, by simp [ht]⟩⟩
    | false =>
      rw [ht] at e'
      obtain ⟨k, i, e2, h⟩ := anyf_loop st m (j + 1) hr
      refine ⟨k, i, by rw [loopO_inl e', e2], ?_⟩
      simpa [ht] using h
theorem anyf_ok : (orc vE).bare 49 [x, .fn (.func C) [] []] = some (.bool (l.any pr)) := by
  have hi : ∃ i : Int, (orc vE).bare 67 [x, .fn (.func C) [] []] = some (.int .i64 i) ∧ decide (i ≥ 0) = l.any pr := by
    obtain ⟨k, i, e, h⟩ := anyf_loop hx hs hf hp hg S0 l 0 rfl
    have e : loopO (g67_L1 x (.fn (.func C) [] []) l.length) ([.int .i64 0, .int .i64 0], S0) = _ := e
    rcases h with ⟨rfl, h⟩ | ⟨rfl, h0, h⟩
    · refine ⟨-1, bare_of rfl ((g67_eq _ _).trans ?_), by rw [h]; rfl⟩
      simp only [g67, ns_len hx hs, e, bindO_ok, unc_cons, asI_int, un0_nil, sel2_zero]
    · refine ⟨i, bare_of rfl ((g67_eq _ _).trans ?_), by rw [h]; simpa using h0⟩
      simp only [g67, ns_len hx hs, e, bindO_ok, unc_cons, asI_int, un0_nil, sel2_one]
  obtain ⟨i, h1, h2⟩ := hi
  refine bare_of rfl ((g49_eq _ _).trans ?_)
  have c := fun {β : Type} (st : St) (K : Kv β) => callS_bare (f := 67) st K rfl (by simp only [List.map_cons, List.map_nil, hx.strip]; rfl) (by simp only [bares_cons, hx.bare]; rfl) h1
  simp only [g49, c, asI_int, h2]
theorem call_anyf {β : Type} (st : St) (K : Kv β) : callS (orc vE) 49 [x, .fn (.func C) [] []] st K = K (.bool (l.any pr)) st q0 :=
  callS_bare st K rfl (by simp only [List.map_cons, List.map_nil, hx.strip]; rfl) (by simp only [bares_cons, hx.bare]; rfl) (anyf_ok hx hs hf hp hg)
end
theorem isEmpty_len {α : Type} (l : List α) : ((l.length : Int) == 0) = l.isEmpty := by
  cases l with
  | nil => rfl
  | cons a l => rw [beq_eq_false_iff_ne.2 (by simp only [List.length_cons]; omega)]; rfl
theorem isPos_len {α : Type} (l : List α) : decide ((l.length : Int) > 0) = !l.isEmpty := by
  cases l with
  | nil => rfl
  | cons a l => simp
theorem form1_ok (t : T) (v : AV) (hv : IsN t v) : (orc vE).bare 50 [v] = some (.bool (!aheadB oneG t)) := by
  obtain ⟨k, tk, tx, l, y, es, rfl, rfl, hy, hs⟩ := isN_open hv
  have e1 : ((k : Int) != 1) = !(k == 1) := nat_bneI k 1
  refine bare_of rfl ((g50_eq _).trans ?_)
  simp only [g50, unA_agg, unc_cons, asI_int, asS_str, un0_nil, hy.asOne, hy.fit1, e1, ns_len hy hs, isPos_len, call_gahead, call_gone, asB_bool, aheadB]
  cases h1 : k == 1 <;> simp only [Bool.not_false, Bool.not_true, ifB_true, ifB_false, bindO_ok, unc_cons, asB_bool, un0_nil, Bool.false_and, Bool.true_and]
  cases h2 : l.isEmpty <;> simp only [Bool.not_false, Bool.not_true, ifB_true, ifB_false, bindO_ok, unc_cons, asB_bool, un0_nil, Bool.false_and, Bool.true_and]
  cases h3 : trivB (tk, tx) <;> simp only [Bool.not_false, Bool.not_true, ifB_true, ifB_false, bindO_ok, unc_cons, asB_bool, un0_nil, Bool.false_and, Bool.true_and]
theorem formL_all (one : Tok → Bool) : ∀ l : List T, formL one l = l.all (formT one)
  | [] => rfl
  | t :: l => by simp only [formL, List.all_cons, formL_all one l]
theorem any_not {pr : T → Bool} : ∀ l : List T, (l.any fun t => !pr t) = !l.all pr
  | [] => rfl
  | t :: l => by simp only [List.any_cons, List.all_cons, any_not l, Bool.not_and]
theorem gform_ok : ∀ (t : T) (v : AV), IsN t v → (orc vE).bare 33 [v] = some (.bool (formT oneG t)) := by
  refine T.ind fun k tk tx l ih => ?_
  intro v hv
  simp only [IsN] at hv
  obtain ⟨y, es, rfl, hy, hs⟩ := hv
  have c1 := fun {β : Type} (st : St) (K : Kv β) => call_anyf (pr := fun t => !aheadB oneG t) hy hs (C := 50) rfl rfl (fun t _ v hN => form1_ok t v hN) st K
  have h2 : ∀ t ∈ l, ∀ v, IsN t v → (orc vE).bare 51 [v] = some (.bool (!formT oneG t)) := by
    intro t ht v hN
    have c := ih t ht v hN
    obtain ⟨k, tk, tx, l, y, es, rfl, rfl, hy, hs⟩ := isN_open hN
    refine bare_of rfl ((g51_eq _).trans ?_)
    simp only [g51, unA_agg, unc_cons, asI_int, asS_str, un0_nil, hy.asOne, hy.fit1, callT hN rfl c, asB_bool]
  have c2 := fun {β : Type} (st : St) (K : Kv β) => call_anyf (pr := fun t => !formT oneG t) hy hs (C := 51) rfl rfl h2 st K
  have e1 : ((k : Int) == 1) = (k == 1) := nat_beq k 1
  have e2 : ((k : Int) == 2) = (k == 2) := nat_beq k 2
  have e0 : ((tk : Int) == 0) = (tk == 0) := nat_beq tk 0
  have e3 : decide ((k : Int) < 3) = !decide (3 ≤ k) := by
    by_cases h : 3 ≤ k
    · rw [decide_eq_true h, decide_eq_false (by omega)]; rfl
    · rw [decide_eq_false h, decide_eq_true (by omega)]; rfl
  have e4 : decide ((k : Int) > 18) = !decide (k ≤ 18) := by
    by_cases h : k ≤ 18
    · rw [decide_eq_true h, decide_eq_false (by omega)]; rfl
    · rw [decide_eq_false h, decide_eq_true (by omega)]; rfl
  have e5 : decide (3 ≤ k ∧ k ≤ 18) = (decide (3 ≤ k) && decide (k ≤ 18)) := by simp
  refine bare_of rfl ((g33_eq _).trans ?_)
  simp only [g33, unA_agg, unc_cons, asI_int, asS_str, un0_nil, hy.asOne, hy.fit1, e1, e2, e3, e4, e5, eql_tok, neq_tok, bindO_ok, asB_bool, c1, c2, any_not, Bool.not_not, call_gone, call_gahead, ns_len hy hs, isEmpty_len, formT, emptyB, formL_all, e0]
  by_cases h1 : k = 1
  · simp only [beq_iff_eq.2 h1, if_pos h1, ifB_true]
    cases h2 : tk == 0 && tx == [] <;> simp only [Bool.not_false, Bool.not_true, ifB_true, ifB_false, bindO_ok, unc_cons, asB_bool, un0_nil, Bool.false_and, Bool.true_and, Bool.false_or, Bool.true_or]
    cases h3 : oneG (tk, tx) <;> simp only [Bool.not_false, Bool.not_true, ifB_true, ifB_false, bindO_ok, unc_cons, asB_bool, un0_nil, Bool.false_and, Bool.true_and, Bool.false_or, Bool.true_or]
    cases h4 : trivB (tk, tx) <;> simp only [Bool.not_false, Bool.not_true, ifB_true, ifB_false, bindO_ok, unc_cons, asB_bool, un0_nil, Bool.false_and, Bool.true_and, Bool.false_or, Bool.true_or]
  · by_cases h2 : k = 2
    · simp only [beq_eq_false_iff_ne.2 h1, if_neg h1, beq_iff_eq.2 h2, if_pos h2, ifB_true, ifB_false]
      cases tk == 0 <;> simp only [ifB_true, ifB_false, bindO_ok, unc_cons, asB_bool, un0_nil, Bool.false_and, Bool.true_and]
    · simp only [beq_eq_false_iff_ne.2 h1, if_neg h1, beq_eq_false_iff_ne.2 h2, if_neg h2, ifB_false]
      cases decide (3 ≤ k) <;> simp only [Bool.not_false, Bool.not_true, ifB_true, ifB_false, bindO_ok, unc_cons, asB_bool, un0_nil, Bool.false_and, Bool.true_and]
      cases decide (k ≤ 18) <;> simp only [Bool.not_false, Bool.not_true, ifB_true, ifB_false, bindO_ok, unc_cons, asB_bool, un0_nil, Bool.false_and, Bool.true_and]
      cases tk == 0 && tx == [] <;> simp only [Bool.not_false, Bool.not_true, ifB_true, ifB_false, bindO_ok, unc_cons, asB_bool, un0_nil, Bool.false_and, Bool.true_and]
def okG (s : List UInt8) : Bool := decide (s.length ≤ 65536) && validS s
def checkN (t : T) : Int := if formT oneG t && (okG (textG t) && eqToks (toksG t) (tokens (textG t))) then 0 else 4
theorem gcheck_ok {t : T} (h1 : cntT t ≤ 900000) (h2 : (textG t).length ≤ 1000000) {v : AV} (hN : IsN t v) : (orc vE).bare 15 [v] = some (.int .i64 (checkN t)) := by
  obtain ⟨x, ex, hx⟩ := gtoks_ok h1 v hN
  have cf := fun {γ : Type} (st : St) (K : Kv γ) => callT hN rfl (gform_ok t v hN) st K
  have ct := fun {γ : Type} (st : St) (K : Kv γ) => callT hN rfl ex st K
  have htt : ((toksG t).map (·.2)).flatten = textG t := by rw [text_toks]; rfl
  have cj := fun {β : Type} (st : St) (K : Kv β) => call_join hx (by have := (toks_bound t).1; omega) (by rw [htt]; exact h2) st K
  rw [htt] at cj
  obtain ⟨k, tk, tx, l, y, es, rfl, rfl, hy, hs⟩ := isN_open hN
  refine bare_of rfl ((g15_eq _).trans ?_)
  simp only [g15, unA_agg, unc_cons, asI_int, asS_str, un0_nil, hy.asOne, hy.fit1, cf, ct, cj, asB_bool, checkN]
  cases hf : formT oneG (.mk k tk tx l) with
  | false => rfl
  | true =>
    simp only [Bool.not_true, ifB_false, Bool.true_and]
    by_cases hl : 65536 < (textG (.mk k tk tx l)).length
    · have c := fun {β : Type} (st : St) (K : Kv β) => callS_bare (f := 34) st K rfl rfl rfl (tokens_large hl)
      simp only [c, unT_tup, nthS_zero, nthS_one, asI_int, okG, decide_eq_false (show ¬ (textG (.mk k tk tx l)).length ≤ 65536 by omega)]
      rfl
    · cases hv : validS (textG (.mk k tk tx l)) with
      | false =>
        have c := fun {β : Type} (st : St) (K : Kv β) => callS_bare (f := 34) st K rfl rfl rfl (tokens_form (by omega) hv)
        simp only [c, unT_tup, nthS_zero, nthS_one, asI_int, okG, hv, Bool.and_false, Bool.false_and]
        rfl
      | true =>
        obtain ⟨z, ez, hz⟩ := tokens_ok (by omega) hv
        have c := fun {β : Type} (st : St) (K : Kv β) => callS_bare (f := 34) st K rfl rfl rfl ez
        have ce := fun {β : Type} (st : St) (K : Kv β) => call2 (F := 35) hx hz rfl (sequal_any hx hz) st K
        simp only [c, unT_tup, nthS_zero, nthS_one, asI_int, okG, hv, decide_eq_true (show (textG (.mk k tk tx l)).length ≤ 65536 by omega), Bool.and_self, Bool.true_and, show ((0 : Int) != 0) = false from rfl, ifB_false, ce, asB_bool, bindO_ok, unc_cons, un0_nil]
        cases eqToks (toksG (.mk k tk tx l)) (tokens (textG (.mk k tk tx l))) <;> rfl
end Go.Proofs.YtflnfagdpoddiaaGreatDoor.Vm
set_option maxRecDepth 100000
set_option linter.unusedSimpArgs false
namespace Go.Proofs.YtflnfagdpoddiaaGreatDoor.Vm
open Go Go.VM Go.Proofs Go.Lex Go.Parse Go.Green

theorem isN_fz {t : T} {v : AV} (h : IsN t v) : Fz 2 v := by
  obtain ⟨k, tk, tx, l, y, es, rfl, rfl, hy, hs⟩ := isN_open h
  refine fz_agg (d := 1) fun c hc => ?_
  simp only [List.mem_cons, List.mem_nil_iff, or_false] at hc
  rcases hc with rfl | rfl | rfl | rfl
  · exact fz_int _ _
  · exact fz_int _ _
  · exact fz_str _
  · exact fz_sl hy
theorem frz_n2 {t : T} {v : AV} (h : IsN t v) (n : Int) {β : Type} (st : St) (K : AV → Option β) : frzS st 0 (.tup [v, .int .i64 n]) K = K (.tup [v, .int .i64 n]) := by
  refine frz_of (d := 3) (fz_tup (d := 2) fun c hc => ?_) (by omega) ?_ st 0 K
  · simp only [List.mem_cons, List.mem_nil_iff, or_false] at hc
    rcases hc with rfl | rfl
    · exact isN_fz h
    · exact (fz_int _ _).mono (by omega)
  · rw [bare_tup]; simp only [bares_cons, (isN_one h).1]; rfl
theorem frz_n3 {t : T} {v : AV} (h : IsN t v) (n : Int) (b : Bool) {β : Type} (st : St) (K : AV → Option β) : frzS st 0 (.tup [v, .int .i64 n, .bool b]) K = K (.tup [v, .int .i64 n, .bool b]) := by
  refine frz_of (d := 3) (fz_tup (d := 2) fun c hc => ?_) (by omega) ?_ st 0 K
  · simp only [List.mem_cons, List.mem_nil_iff, or_false] at hc
    rcases hc with rfl | rfl | rfl
    · exact isN_fz h
    · exact (fz_int _ _).mono (by omega)
    · exact (fz_bool _).mono (by omega)
  · rw [bare_tup]; simp only [bares_cons, (isN_one h).1]; rfl
def Small (t : T) : Prop := cntT t ≤ 900000 ∧ lenT t ≤ 1000000
theorem Small.kid {k tk : Nat} {tx : List UInt8} {l : List T} {t : T} (h : Small (.mk k tk tx l)) (ht : t ∈ l) : Small t := by
  have h1 := cnt_mem ht
  have h2 := len_mem ht
  have h3 := h.1
  have h4 := h.2
  simp only [cntT] at h3
  simp only [lenT] at h4
  exact ⟨by omega, by omega⟩
theorem Small.text {t : T} (h : Small t) {v : AV} (hN : IsN t v) : (orc vE).bare 10 [v] = some (.str (textG t)) := gtext_ok h.1 (by have := (toks_bound t).2; have := h.2; omega) hN
theorem isZ : IsN (.mk 0 0 [] []) (.agg z4) := by simp only [IsN]; exact ⟨.nils, [], rfl, IsSl.nils, IsNs.nil⟩
theorem sum_loop {m : List T} {y : AV} {es : List AV} (hy : IsSl 4 y es) (hs : IsNs m es) (hsm : ∀ t ∈ m, Small t) : ∀ (r : List T) (j a : Nat) (st : St), m.drop j = r → st.ro ≤ st.h → a + (textGL r).length ≤ 1000000000 →
    ∃ st', loopO (g39_L1 y m.length) ([.int .i64 (a : Int), .int .i64 (j : Int)], st) = some (0, [.int .i64 ((a + (textGL r).length : Nat) : Int)], st') ∧ Keeps st st' (fun _ => False)
  | [], j, a, st, hd, _, _ => by
    have := List.drop_eq_nil_iff.1 hd
    have q : ¬ (j : Int) < (m.length : Int) := by omega
    refine ⟨st, loopO_inr ?_, Keeps.refl _ _⟩
    simp only [g39_L1, unc_cons, asI_int, un0_nil, ifB_decide, if_neg q, textGL, List.length_nil, Nat.add_zero]
  | t :: r, j, a, st, hd, hro, hb => by
    obtain ⟨hgt, hr, hlt⟩ := drop_cons hd
    have q : (j : Int) < (m.length : Int) := by omega
    have hlen := ns_lt hy hs
    obtain ⟨x, b, s, z, hN, e⟩ := kid_at hy hs hgt
    obtain ⟨_, hz⟩ := kid_one hN
    obtain ⟨s1, g1, k1, n1, fx, e1⟩ := lvN st (x : Int) (b : Int) s z hro
    simp only [textGL, List.length_append] at hb
    have c := fun {γ : Type} (st : St) (K : Kv γ) => callT hN rfl ((hsm t (List.mem_of_getElem? hgt)).text hN) st K
    obtain ⟨st', e', k'⟩ := sum_loop hy hs hsm r (j + 1) (a + (textG t).length) s1 hr (by rw [k1.ro]; have := k1.h; omega) (by omega)
    refine ⟨st', ?_, k1.trans k'⟩
    rw [loopO_inl (s' := ([.int .i64 ((a + (textG t).length : Nat) : Int), .int .i64 ((j + 1 : Nat) : Int)], s1)), e']
    · simp only [textGL, List.length_append, Nat.add_assoc]
    · simp only [g39_L1, unc_cons, asI_int, un0_nil, ifB_decide, if_pos q]
      refine (e st _).trans ?_
      simp only [letSt_eq, hz.asOne, e1, loadS_mp g1, List.drop_zero, takeO4, bindO_ok, unA_agg, unc_cons, asI_int, asS_str, un0_nil, c, letV_eq, wrapA (show a + (textG t).length ≤ 9223372036854775807 by omega), wrapA1 (show j + 1 ≤ 9223372036854775807 by omega)]
structure AtS (t : T) (st : St) : Prop where
  ex : ∃ k tk tx l y es, t = .mk k tk tx l ∧ st.get 0 = .ok (.cells ND [.int .u8 (k : Int), .int .u8 (tk : Int), .str tx, y]) ∧ IsSl 4 y es ∧ IsNs l es
  zero : st.get 1 = .ok (.cells ND z4)
  ro : st.ro = 0
def AtEnd (n : Nat) (o : Option (T × Nat)) (q : Nat × Car) : Prop :=
  match o with
  | some (u, m) => ∃ st', q = (0, [.int .i64 0, .bool false, .int .i64 ((n + m : Nat) : Int)], st') ∧ AtS u st'
  | none => ∃ st' f, q = (1, [.int .i64 0, .bool false, .int .i64 f], st') ∧ st'.get 1 = .ok (.cells ND z4)
theorem isNs_take : ∀ {l : List T} {es : List AV} (i : Nat), IsNs l es → IsNs (l.take i) (es.take i)
  | _, _, 0, _ => IsNs.nil
  | [], es, i + 1, h => by simp only [IsNs] at h; subst h; exact IsNs.nil
  | t :: l, es, i + 1, h => by
    simp only [IsNs] at h
    obtain ⟨e, r, rfl, h1, h2⟩ := h
    exact IsNs.cons h1 (isNs_take i h2)
theorem at_loop {p : List Int} {x : AV} (hx : IsSl 1 x (p.map (AV.int .i64))) : ∀ (q : List Int) (j n : Nat) (t : T) (st : St), p.drop j = q → AtS t st → Small t → n + lenT t ≤ 1000000 →
    ∃ r, loopO (g39_L2 x p.length) ([.int .i64 0, .bool false, .int .i64 (n : Int), .int .i64 (j : Int)], st) = some r ∧ AtEnd n (atG q t) r
  | [], j, n, t, st, hd, ha, hs, hn => by
    have := List.drop_eq_nil_iff.1 hd
    have q : ¬ (j : Int) < (p.length : Int) := by omega
    refine ⟨_, loopO_inr (r := (0, [.int .i64 0, .bool false, .int .i64 (n : Int)], st)) ?_, ?_⟩
    · simp only [g39_L2, unc_cons, asI_int, asB_bool, un0_nil, ifB_decide, if_neg q]
    · simp only [atG, AtEnd, Nat.add_zero]
      exact ⟨st, rfl, ha⟩
  | i :: q, j, n, t, st, hd, ha, hs, hn => by
    obtain ⟨hgi, hr, hlt⟩ := drop_cons hd
    have hq : (j : Int) < (p.length : Int) := by omega
    have hpl : p.length ≤ 9223372036854775807 := by have := hx.1; rwa [List.length_map] at this
    obtain ⟨⟨k, tk, tx, l, y, es, rfl, g0, hy, hns⟩, gz, hro⟩ := ha
    have hi : ∀ {β : Type} (K : AV → List Nat → Option β), idxA 1 x (j : Int) st K = K (.ip [.int .i64 i]) [] := fun K => hx.idx (by rw [List.getElem?_map, hgi]; rfl) st K
    have l0 : ∀ {β : Type} (K : AV → List Nat → Option β), loadS 1 false (.mp 0 0) st K = K (.int .u8 (k : Int)) [0] := fun K => by rw [loadS_mp g0]; rfl
    have l3 : ∀ {β : Type} (K : AV → List Nat → Option β), loadS 1 false (.mp 0 3) st K = K y [0] := fun K => by rw [loadS_mp g0]; rfl
    obtain ⟨s9, g9, k9, n9, f9, e9⟩ := pvN gz rfl 0 0 [] .nils (by rw [hro]; omega)
    have fail : atG (i :: q) (.mk k tk tx l) = none → g39_L2 x p.length ([.int .i64 0, .bool false, .int .i64 (n : Int), .int .i64 (j : Int)], st) = some (.inr (1, [.int .i64 0, .bool false, .int .i64 (n : Int)], s9)) →
        ∃ r, loopO (g39_L2 x p.length) ([.int .i64 0, .bool false, .int .i64 (n : Int), .int .i64 (j : Int)], st) = some r ∧ AtEnd n (atG (i :: q) (.mk k tk tx l)) r := by
      intro h1 h2
      refine ⟨_, loopO_inr h2, ?_⟩
      rw [h1]
      exact ⟨s9, n, rfl, g9⟩
    by_cases h0 : i < 0
    · refine fail (by simp only [atG, if_pos h0]) ?_
      simp only [g39_L2, unc_cons, asI_int, asB_bool, un0_nil, ifB_decide, if_pos hq, hi, loadS_ip, takeO_one, bindO_ok, if_pos h0, ifB_true, e9]
    · obtain ⟨m, rfl⟩ : ∃ m : Nat, i = (m : Int) := ⟨i.toNat, by omega⟩
      have hm : ((m : Int)).toNat = m := by omega
      by_cases hml : l.length ≤ m
      · have h1 : l[m]? = none := List.getElem?_eq_none hml
        have q2 : (m : Int) ≥ (l.length : Int) := by omega
        refine fail (by simp only [atG, if_neg h0, hm, h1]) ?_
        simp only [g39_L2, unc_cons, asI_int, asB_bool, un0_nil, ifB_decide, if_pos hq, hi, loadS_ip, takeO_one, bindO_ok, if_neg h0, l3, ns_len hy hns, decide_eq_true q2, ifB_true, if_true, e9]
      · obtain ⟨u, hu⟩ : ∃ u, l[m]? = some u := ⟨_, List.getElem?_eq_getElem (by omega)⟩
        have q2 : ¬ (m : Int) ≥ (l.length : Int) := by omega
        obtain ⟨a, b, s, z, hN, e⟩ := kid_at hy hns hu
        obtain ⟨zs, hz⟩ := kid_one hN
        have hpre := pre_len k l m hu
        simp only [lenT] at hn
        have hsu := hs.kid (List.mem_of_getElem? hu)
        -- what stands ahead
        have hsum : ∀ (K : Car → Option (Sum Car (Nat × Car))), (∀ st', Keeps st st' (fun _ => False) → K ([.int .i64 ((n + preLen k l m : Nat) : Int)], st') = K ([.int .i64 ((n + preLen k l m : Nat) : Int)], st')) →
            ∃ st', Keeps st st' (fun _ => False) ∧ bindO (ifB ((k : Int) != 2) (loadS 1 false (AV.mp 0 3) st fun v46 _x => sliceS 4 v46 none (some (m : Int)) none fun v48 => lenS v48 fun k49 => bindO (loopO (g39_L1 v48 k49) ([AV.int .i64 (n : Int), AV.int .i64 0], st)) fun c99 => unc (Prod.fst (Prod.snd c99)) fun v100 l101 => asI .i64 v100 fun n102 => un0 l101 (some ([AV.int .i64 n102], Prod.snd (Prod.snd c99)))) (some ([AV.int .i64 (n : Int)], st)) : Option Car) K = K ([.int .i64 ((n + preLen k l m : Nat) : Int)], st') := by
          intro K _
          have e2 : ((k : Int) != 2) = !(k == 2) := nat_bneI k 2
          by_cases hk : k = 2
          · refine ⟨st, Keeps.refl _ _, ?_⟩
            rw [e2, beq_iff_eq.2 hk]
            simp only [Bool.not_true, ifB_false, bindO_ok, preLen, if_pos hk, Nat.add_zero]
          · obtain ⟨w, hw, ew⟩ := hy.cut (lo := none) (hi := some (m : Int)) (l := 0) (m := m) hiO_none (hiO_nat (by rw [hns.len]; omega))
            rw [List.drop_zero] at hw
            obtain ⟨st', e', k'⟩ := sum_loop hw (isNs_take m hns) (fun t ht => hs.kid (List.mem_of_mem_take ht)) (l.take m) 0 n st rfl (by rw [hro]; omega) (by have := (toks_boundL (l.take m)).2; have := len_take hu; omega)
            have e' : loopO (g39_L1 w (l.take m).length) ([AV.int .i64 (n : Int), AV.int .i64 0], st) = _ := e'
            have hwl : ∀ {γ : Type} (K : Nat → Option γ), lenS w K = K (l.take m).length := fun K => ns_len hw (isNs_take m hns) K
            refine ⟨st', k', ?_⟩
            rw [e2, beq_eq_false_iff_ne.2 hk]
            simp only [Bool.not_false, ifB_true, l3, ew, hwl]
            rw [e']
            simp only [bindO_ok, unc_cons, asI_int, un0_nil, preLen, if_neg hk]
        obtain ⟨s1, k1, es1⟩ := hsum _ fun _ _ => rfl
        have g01 := k1.old _ _ (fun f => f) g0
        obtain ⟨s2, g2, k2, n2, f2, e2⟩ := pvN g01 rfl (a : Int) (b : Int) s z (by rw [k1.ro, hro]; omega)
        have l31 : ∀ {β : Type} (K : AV → List Nat → Option β), loadS 1 false (.mp 0 3) s1 K = K y [0] := fun K => by rw [loadS_mp g01]; rfl
        have ha2 : AtS u s2 := by
          obtain ⟨k', tk', tx', l', z', zs', rfl, hv, hz', hzs⟩ := isN_open hN
          injection hv with hv
          injection hv with h1 hv; injection hv with h2 hv; injection hv with h3 hv; injection hv with h4 hv
          subst h4
          refine ⟨⟨k', tk', tx', l', z, zs', rfl, ?_, hz', hzs⟩, k2.of_ne (by decide) (k1.old _ _ (fun f => f) gz), by rw [k2.ro, k1.ro]; exact hro⟩
          rw [g2, h1, h2, h3]
        obtain ⟨r, er, hr2⟩ := at_loop hx q (j + 1) (n + preLen k l m) u s2 hr ha2 hsu (by omega)
        refine ⟨r, ?_, ?_⟩
        · rw [loopO_inl (s' := ([.int .i64 0, .bool false, .int .i64 ((n + preLen k l m : Nat) : Int), .int .i64 ((j + 1 : Nat) : Int)], s2)), er]
          simp only [g39_L2, unc_cons, asI_int, asB_bool, un0_nil, ifB_decide, if_pos hq, hi, loadS_ip, takeO_one, bindO_ok, if_neg h0, l3, ns_len hy hns, decide_eq_false q2, ifB_false, if_false, l0]
          simp only [l3] at es1
          refine es1.trans ?_
          simp only [unc_cons, asI_int, un0_nil, l31]
          refine (e s1 _).trans ?_
          simp only [hz.asOne, e2, letV_eq, wrapA1 (show j + 1 ≤ 9223372036854775807 by omega)]
        · simp only [atG, if_neg h0, hm, hu]
          cases hq2 : atG q u with
          | none => rw [hq2] at hr2; exact hr2
          | some wn =>
            obtain ⟨w, m'⟩ := wn
            rw [hq2] at hr2
            obtain ⟨st', rfl, h⟩ := hr2
            exact ⟨st', by rw [Nat.add_assoc], h⟩
theorem gat_ok {t : T} (ht : Small t) {v : AV} (hN : IsN t v) {p : List Int} {x : AV} (hx : IsSl 1 x (p.map (AV.int .i64))) :
    ∃ v', (orc vE).bare 39 [v, x] = some (.tup [v', .int .i64 ((atR p t).2.1 : Int), .bool (atR p t).2.2]) ∧ IsN (atR p t).1 v' := by
  obtain ⟨k, tk, tx, l, y, es, rfl, rfl, hy, hs⟩ := isN_open hN
  have ha : AtS (.mk k tk tx l) (St.mk 2 0 (Tr.node (some (VM.Obj.cells ND [AV.int .u8 (k : Int), AV.int .u8 (tk : Int), AV.str tx, y])) (Tr.node (some (VM.Obj.cells ND [AV.int .u8 0, AV.int .u8 0, AV.str [], AV.nils])) Tr.leaf Tr.leaf) Tr.leaf)) :=
    ⟨⟨k, tk, tx, l, y, es, rfl, rfl, hy, hs⟩, rfl, rfl⟩
  have hpl : ∀ {γ : Type} (K : Nat → Option γ), lenS x K = K p.length := fun K => by rw [hx.len, List.length_map]
  obtain ⟨r, e, h⟩ := at_loop hx p 0 0 _ _ rfl ha ht (by have := ht.2; omega)
  have e : loopO (g39_L2 x p.length) ([.int .i64 0, .bool false, .int .i64 0, .int .i64 0], St.mk 2 0 (Tr.node (some (VM.Obj.cells ND [AV.int .u8 (k : Int), AV.int .u8 (tk : Int), AV.str tx, y])) (Tr.node (some (VM.Obj.cells ND [AV.int .u8 0, AV.int .u8 0, AV.str [], AV.nils])) Tr.leaf Tr.leaf) Tr.leaf)) = _ := e
  cases ho : atG p (.mk k tk tx l) with
  | none =>
    rw [ho] at h
    obtain ⟨st', f, rfl, g1⟩ := h
    refine ⟨.agg z4, bare_of rfl ((g39_eq _ _).trans ?_), by simp only [atR, ho]; exact isZ⟩
    simp only [g39, unA_agg, unc_cons, asI_int, asS_str, asB_bool, un0_nil, hy.asOne, hpl]
    rw [e]
    simp only [bindO_ok, unc_cons, asI_int, asB_bool, un0_nil, sel2_one, loadS_mp g1, List.drop_zero, takeO4, unA_agg, asS_str, atR, ho]
    exact frz_n3 isZ 0 false st' _
  | some un =>
    obtain ⟨u, n⟩ := un
    rw [ho] at h
    obtain ⟨st', rfl, ⟨k', tk', tx', l', y', es', rfl, g0, hy', hs'⟩, gz, hro⟩ := h
    have hN' : IsN (.mk k' tk' tx' l') (.agg [.int .u8 (k' : Int), .int .u8 (tk' : Int), .str tx', y']) := by simp only [IsN]; exact ⟨_, _, rfl, hy', hs'⟩
    obtain ⟨s2, g2, k2, n2, f2, e2⟩ := pvN gz rfl (k' : Int) (tk' : Int) tx' y' (by rw [hro]; omega)
    refine ⟨_, bare_of rfl ((g39_eq _ _).trans ?_), by simp only [atR, ho]; exact hN'⟩
    simp only [g39, unA_agg, unc_cons, asI_int, asS_str, asB_bool, un0_nil, hy.asOne, hpl]
    rw [e]
    simp only [bindO_ok, unc_cons, asI_int, asB_bool, un0_nil, sel2_zero, loadS_mp g0, List.drop_zero, takeO4, unA_agg, asS_str, hy'.asOne, e2, loadS_mp g2, atR, ho, Nat.zero_add]
    exact frz_n3 hN' _ true s2 _
theorem callTx {F : FuncId} {t : T} {v x r : AV} {es : List AV} {z : Nat} (hN : IsN t v) (hx : IsSl z x es) (hf : vE.full F = false) (h : (orc vE).bare F [v, x] = some r) {β : Type} (st : St) (K : Kv β) : callS (orc vE) F [v, x] st K = K r st q0 :=
  callS_bare st K hf (by simp only [List.map_cons, List.map_nil, (isN_one hN).2, hx.strip]) (by simp only [bares_cons, (isN_one hN).1, hx.bare]; rfl) h
structure Ow (k tk : Nat) (tx : List UInt8) (y : AV) (l : List T) (v : AV) (st : St) : Prop where
  node : st.get 0 = .ok (.cells ND [.int .u8 (k : Int), .int .u8 (tk : Int), .str tx, y])
  own : ∃ es, Own st 4 ND v es ∧ IsNs l es
  zero : st.get 1 = .ok (.cells ND z4)
  ro : st.ro = 0
theorem own_loop {k tk : Nat} {tx : List UInt8} {l : List T} {y : AV} {es : List AV} (hy : IsSl 4 y es) (hs : IsNs l es) (hl : l.length ≤ 900000) (ih : ∀ t ∈ l, ∀ v, IsN t v → ∃ v', (orc vE).bare 40 [v] = some v' ∧ IsN t v') : ∀ (m p : List T) (v : AV) (st : St), l = p ++ m → Ow k tk tx y p v st →
    ∃ v' st', loopO (g40_L1 y l.length) ([v, .int .i64 (p.length : Int)], st) = some (0, [v'], st') ∧ Ow k tk tx y l v' st'
  | [], p, v, st, hd, hb => by
    rw [List.append_nil] at hd
    subst hd
    have q : ¬ (l.length : Int) < (l.length : Int) := by omega
    refine ⟨v, st, loopO_inr ?_, hb⟩
    simp only [g40_L1, unc_cons, asI_int, un0_nil, ifB_decide, if_neg q]
  | t :: m, p, v, st, hd, hb => by
    have hgt : l[p.length]? = some t := by rw [hd]; simp
    have hlt : p.length < l.length := by rw [hd]; simp
    have q : (p.length : Int) < (l.length : Int) := by omega
    obtain ⟨a, b, s, z, hN, e⟩ := kid_at hy hs hgt
    obtain ⟨_, hz⟩ := kid_one hN
    obtain ⟨v', e1, hN1⟩ := ih t (List.mem_of_getElem? hgt) _ hN
    obtain ⟨k', tk', tx', l', y', es', ht, rfl, hy', hs'⟩ := isN_open hN1
    obtain ⟨g0, ⟨ws, ho, hns⟩, gz, hro⟩ := hb
    obtain ⟨s1, g1, k1, n1, fx1, e0⟩ := lvN st (a : Int) (b : Int) s z (by rw [hro]; omega)
    have ho1 : Own s1 4 ND v ws := own_keep ho k1 fun j _ h => h
    obtain ⟨v2, s2, ho2, k2, hj2, fx2, e2⟩ := own_apps2 (b := 56) [.agg [.int .u8 (k' : Int), .int .u8 (tk' : Int), .str tx', y']] ho1 fun _ => room_of (by rw [hns.len]; simp only [List.length_cons, List.length_nil]; omega) (by omega) (by omega)
    have hns2 : IsNs (p ++ [t]) (ws ++ [.agg [.int .u8 (k' : Int), .int .u8 (tk' : Int), .str tx', y']]) := IsNs.app hns (IsNs.cons hN1 IsNs.nil)
    have g01 := k1.old _ _ (fun f => f) g0
    have gz1 := k1.old _ _ (fun f => f) gz
    obtain ⟨v3, s4, e4, hb4⟩ := own_loop hy hs hl ih m (p ++ [t]) v2 s2 (by rw [hd]; simp) ⟨k2.old _ _ (ho1.not g01) g01, ⟨_, ho2, hns2⟩, k2.old _ _ (ho1.not gz1) gz1, by rw [k2.ro, k1.ro]; exact hro⟩
    rw [List.length_append, List.length_cons, List.length_nil] at e4
    refine ⟨v3, s4, ?_, hb4⟩
    rw [loopO_inl (s' := ([v2, .int .i64 ((p.length + 1 : Nat) : Int)], s2)), e4]
    simp only [g40_L1, unc_cons, asI_int, un0_nil, ifB_decide, if_pos q]
    refine (e st _).trans ?_
    simp only [letSt_eq, hz.asOne, e0, loadS_mp g1, List.drop_zero, takeO4, bindO_ok, callT hN rfl e1, unA_agg, unc_cons, asI_int, asS_str, un0_nil, hy'.asOne, hy'.fit1, e2, letV_eq, wrapA1 (show p.length + 1 ≤ 9223372036854775807 by omega)]
theorem own_ok : ∀ (t : T), cntT t ≤ 900000 → ∀ (v : AV), IsN t v → ∃ v', (orc vE).bare 40 [v] = some v' ∧ IsN t v' := by
  refine T.ind fun k tk tx l ih => ?_
  intro hc v hv
  simp only [IsN] at hv
  obtain ⟨y, es, rfl, hy, hs⟩ := hv
  simp only [cntT] at hc
  have hll : ∀ l : List T, l.length ≤ cntL l := by
    intro l
    induction l with
    | nil => simp [cntL]
    | cons t l ih => cases t with | mk a b c d => simp only [cntL, cntT, List.length_cons]; omega
  have hi : ∀ t ∈ l, ∀ v, IsN t v → ∃ v', (orc vE).bare 40 [v] = some v' ∧ IsN t v' := fun t ht => ih t ht (by have := cnt_mem ht; omega)
  have hb0 : Ow k tk tx y [] .nils (St.mk 2 0 (Tr.node (some (VM.Obj.cells ND [AV.int .u8 (k : Int), AV.int .u8 (tk : Int), AV.str tx, y])) (Tr.node (some (VM.Obj.cells ND [AV.int .u8 0, AV.int .u8 0, AV.str [], AV.nils])) Tr.leaf Tr.leaf) Tr.leaf)) :=
    ⟨rfl, ⟨[], Own.nils (Nat.zero_le _) _ _, IsNs.nil⟩, rfl, rfl⟩
  obtain ⟨w, s1, e1, g0, ⟨ws, ho, hns⟩, gz, hro⟩ := own_loop hy hs (by have := hll l; omega) hi l [] _ _ rfl hb0
  have e1 : loopO (g40_L1 y l.length) ([.nils, .int .i64 0], St.mk 2 0 (Tr.node (some (VM.Obj.cells ND [AV.int .u8 (k : Int), AV.int .u8 (tk : Int), AV.str tx, y])) (Tr.node (some (VM.Obj.cells ND [AV.int .u8 0, AV.int .u8 0, AV.str [], AV.nils])) Tr.leaf Tr.leaf) Tr.leaf)) = _ := e1
  obtain ⟨s2, g2, k2, n2, fx2, e2⟩ := storeF3 w g0 (by rw [hro]; omega)
  have gz2 := k2.of_ne (show (1 : Nat) ≠ 0 by decide) gz
  obtain ⟨s3, g3, k3, n3, fx3, e3⟩ := pvN gz2 rfl (k : Int) (tk : Int) tx w (by rw [k2.ro, hro]; omega)
  have hnd : Nd (.mk k tk tx l) k tk tx w := ⟨⟨l, ws, rfl, IsK.own ho, hns⟩⟩
  obtain ⟨v', hN', hf⟩ := frz_nd hnd
  refine ⟨v', bare_of rfl ((g40_eq _).trans ?_), hN'⟩
  simp only [g40, unA_agg, unc_cons, asI_int, asS_str, un0_nil, hy.asOne, ns_len hy hs]
  rw [e1]
  simp only [bindO_ok, unc_cons, un0_nil, ho.one, hnd.asOne, e2, loadS_mp g2, List.drop_zero, takeO4, unA_agg, asI_int, asS_str, e3, loadS_mp g3, hf]
end Go.Proofs.YtflnfagdpoddiaaGreatDoor.Vm
set_option maxRecDepth 100000
set_option linter.unusedSimpArgs false
namespace Go.Proofs.YtflnfagdpoddiaaGreatDoor.Vm
open Go Go.VM Go.Proofs Go.Lex Go.Parse Go.Green

theorem Small.at {t : T} (h : Small t) (hc : cntT t ≤ 800000) (p : List Int) : Small (atR p t).1 ∧ (atR p t).2.1 + (textG (atR p t).1).length ≤ 1000000 := by
  have h1 := atR_small p t
  have h2 := h.2
  have h3 := (toks_bound (atR p t).1).2
  exact ⟨⟨by omega, by omega⟩, by omega⟩
theorem At_ok {t : T} (ht : Small t) (hc : cntT t ≤ 800000) {v : AV} (hN : IsN t v) {p : List Int} {x : AV} (hx : IsSl 1 x (p.map (AV.int .i64))) :
    ∃ v', (orc vE).bare 20 [v, x] = some (.tup [v', .int .i64 (errG (atR p t).2.2)]) ∧ IsN (atR p t).1 v' := by
  obtain ⟨w, ew, hw⟩ := gat_ok ht hN hx
  have ca := fun {β : Type} (st : St) (K : Kv β) => callTx (F := 39) hN hx rfl ew st K
  have hsm := (ht.at hc p).1
  obtain ⟨o, eo, ho⟩ := own_ok _ hsm.1 w hw
  have co := fun {β : Type} (st : St) (K : Kv β) => callT hw rfl eo st K
  generalize hs0 : St.mk 1 0 (Tr.node (some (VM.Obj.cells ND [AV.int .u8 0, AV.int .u8 0, AV.str [], AV.nils])) Tr.leaf Tr.leaf) = s0
  have g0 : s0.get 0 = .ok (.cells ND z4) := by rw [← hs0]; rfl
  have hh : s0.h = 1 := by rw [← hs0]
  have hr : s0.ro = 0 := by rw [← hs0]
  obtain ⟨k, tk, tx, l, y, es, rfl, rfl, hy, hs⟩ := isN_open hN
  obtain ⟨k1, tk1, tx1, l1, y1, es1, i1, rfl, hy1, hs1⟩ := isN_open hw
  obtain ⟨k2, tk2, tx2, l2, y2, es2, i2, rfl, hy2, hs2⟩ := isN_open ho
  obtain ⟨s1, g1, ka, n1, fa, ea⟩ := lvN s0 (k1 : Int) (tk1 : Int) tx1 y1 (by rw [hr]; omega)
  have g01 := ka.old _ _ (fun f => f) g0
  cases hb : (atR p (.mk k tk tx l)).2.2 with
  | false =>
    have hz : (atR p (.mk k tk tx l)).1 = .mk 0 0 [] [] := by
      unfold atR at hb ⊢
      cases h : atG p (.mk k tk tx l) with
      | none => rfl
      | some un => rw [h] at hb; cases hb
    obtain ⟨s2, g2, _, _, fb, eb⟩ := pvN g01 rfl 0 0 [] .nils (by rw [ka.ro, hr]; omega)
    refine ⟨.agg z4, bare_of rfl ((g20_eq _ _).trans ?_), by rw [hz]; exact isZ⟩
    simp only [g20, unA_agg, unc_cons, asI_int, asS_str, asB_bool, un0_nil, hy.asOne, hy.fit1, hs0, ca, unT_tup, nthS_zero, nthS_one, letSt_eq, hy1.asOne, ea, hb]
    refine (nthS_get (v := .bool false) (by rfl) _).trans ?_
    simp only [asB_bool, Bool.not_false, ifB_true, eb, loadS_mp g2, List.drop_zero, takeO4, bindO_ok, unA_agg, unc_cons, asI_int, asS_str, un0_nil]
    exact frz_n2 isZ 5 s2 _
  | true =>
    obtain ⟨s2, g2, _, _, fb, eb⟩ := pvN g01 rfl (k2 : Int) (tk2 : Int) tx2 y2 (by rw [ka.ro, hr]; omega)
    refine ⟨_, bare_of rfl ((g20_eq _ _).trans ?_), ho⟩
    simp only [g20, unA_agg, unc_cons, asI_int, asS_str, asB_bool, un0_nil, hy.asOne, hy.fit1, hs0, ca, unT_tup, nthS_zero, nthS_one, letSt_eq, hy1.asOne, ea, hb]
    refine (nthS_get (v := .bool true) (by rfl) _).trans ?_
    simp only [asB_bool, Bool.not_true, ifB_false, loadS_mp g1, co, eb, loadS_mp g2, List.drop_zero, takeO4, bindO_ok, unA_agg, unc_cons, asI_int, asS_str, un0_nil, hy2.asOne]
    exact frz_n2 ho 0 s2 _
theorem Full_ok {t : T} (ht : Small t) (hc : cntT t ≤ 800000) {v : AV} (hN : IsN t v) {p : List Int} {x : AV} (hx : IsSl 1 x (p.map (AV.int .i64))) :
    (orc vE).bare 21 [v, x] = some (.tup [.agg [.int .i64 (fullG p t).1, .int .i64 (fullG p t).2], .int .i64 (errG (atR p t).2.2)]) := by
  obtain ⟨w, ew, hw⟩ := gat_ok ht hN hx
  have ca := fun {β : Type} (st : St) (K : Kv β) => callTx (F := 39) hN hx rfl ew st K
  obtain ⟨hsm, hle⟩ := ht.at hc p
  have co := fun {β : Type} (st : St) (K : Kv β) => callT hw rfl (hsm.text hw) st K
  generalize hs0 : St.mk 1 0 (Tr.node (some (VM.Obj.cells 41 [AV.int .i64 0, AV.int .i64 0])) Tr.leaf Tr.leaf) = s0
  have g0 : s0.get 0 = .ok (.cells 41 [.int .i64 0, .int .i64 0]) := by rw [← hs0]; rfl
  have hr : s0.ro = 0 := by rw [← hs0]
  obtain ⟨k, tk, tx, l, y, es, rfl, rfl, hy, hs⟩ := isN_open hN
  obtain ⟨k1, tk1, tx1, l1, y1, es1, i1, rfl, hy1, hs1⟩ := isN_open hw
  obtain ⟨s1, g1, ka, n1, fa, ea⟩ := lvN s0 (k1 : Int) (tk1 : Int) tx1 y1 (by rw [hr]; omega)
  have g01 := ka.old _ _ (fun f => f) g0
  have put := fun (a b : Int) => var_put (O := orc vE) (.agg [.int .i64 a, .int .i64 b]) g01 (z := 2) (cs := [.int .i64 a, .int .i64 b]) rfl rfl (by rw [ka.ro, hr]; omega)
  refine bare_of rfl ((g21_eq _ _).trans ?_)
  simp only [g21, unA_agg, unc_cons, asI_int, asS_str, asB_bool, un0_nil, hy.asOne, hy.fit1, hs0, ca, unT_tup, nthS_zero, nthS_one, letSt_eq, hy1.asOne, ea]
  refine (nthS_get (v := .bool (atR p (.mk k tk tx l)).2.2) (by rfl) _).trans ?_
  cases hb : (atR p (.mk k tk tx l)).2.2 with
  | false =>
    obtain ⟨s2, g2, _, _, fb, eb⟩ := put 0 0
    simp only [asB_bool, Bool.not_false, ifB_true, eb, loadS_mp g2, List.drop_zero, takeO2, bindO_ok, unA_agg, unc_cons, asI_int, un0_nil, fullG, hb]
    rfl
  | true =>
    obtain ⟨s2, g2, _, _, fb, eb⟩ := put ((atR p (.mk k tk tx l)).2.1 : Int) (((atR p (.mk k tk tx l)).2.1 + (textG (atR p (.mk k tk tx l)).1).length : Nat) : Int)
    simp only [asB_bool, Bool.not_true, ifB_false, loadS_mp g1, co, letV_eq, wrapA (show (atR p (.mk k tk tx l)).2.1 + (textG (atR p (.mk k tk tx l)).1).length ≤ 9223372036854775807 by omega), eb, loadS_mp g2, List.drop_zero, takeO4, takeO2, bindO_ok, unA_agg, unc_cons, asI_int, asS_str, un0_nil, fullG, hb]
    rfl
theorem storeF2a {st : St} {id : Nat} {t : TypeId} {a b : AV} (v' : AV) (hg : st.get id = .ok (.cells t [a, b])) (hro : st.ro ≤ id) :
    ∃ st', st'.get id = .ok (.cells t [v', b]) ∧ Keeps st st' (· = id) ∧ st'.h = st.h ∧ ∃ fx, ∀ {β : Type} (K : Kv β), storeS (orc vE) 1 (.mp id 0) v' [v'] st K = K VM.undef st' fx := by
  refine ⟨st.put id (.cells t [v', b]), by rw [St.get_put_same (St.get_ok.1 hg).1], Keeps.put rfl, rfl, ⟨[id], .wrote id (.cells t [v', b])⟩, fun K => storeS_at (z := 1) (cs := [v']) (off := 0) hg rfl (Nat.le_of_ble_eq_true rfl) hro K⟩
theorem storeF2b {st : St} {id : Nat} {t : TypeId} {a b : AV} (v' : AV) (hg : st.get id = .ok (.cells t [a, b])) (hro : st.ro ≤ id) :
    ∃ st', st'.get id = .ok (.cells t [a, v']) ∧ Keeps st st' (· = id) ∧ st'.h = st.h ∧ ∃ fx, ∀ {β : Type} (K : Kv β), storeS (orc vE) 1 (.mp id 1) v' [v'] st K = K VM.undef st' fx := by
  refine ⟨st.put id (.cells t [a, v']), by rw [St.get_put_same (St.get_ok.1 hg).1], Keeps.put rfl, rfl, ⟨[id], .wrote id (.cells t [a, v'])⟩, fun K => storeS_at (z := 1) (cs := [v']) (off := 1) hg rfl (Nat.le_of_ble_eq_true rfl) hro K⟩
theorem bytesT_cons (t : Tok) (l : List Tok) : (bytesT (t :: l)).length = t.2.length + (bytesT l).length := by simp [bytesT]
theorem ownl_loop {x : AV} {L : List Tok} (hx : IsSl 2 x (L.map tok)) {s41 : St} : ∀ (l : List Tok) (j n : Nat) (f zz : Int) (st : St), L.drop j = l → st.get s41.h = .ok (.cells 41 [.int .i64 f, .int .i64 zz]) → st.ro = 0 → n + (bytesT l).length ≤ 1000000000 →
    ∃ st', loopO (g22_L1 s41 x L.length) ([.int .i64 (n : Int), .int .i64 (j : Int)], st) = some (0, [.int .i64 ((ownL f zz n l).2.2 : Int)], st') ∧ st'.get s41.h = .ok (.cells 41 [.int .i64 (ownL f zz n l).1, .int .i64 (ownL f zz n l).2.1]) ∧ Keeps st st' (· = s41.h)
  | [], j, n, f, zz, st, hd, hg, hro, hb => by
    have := List.drop_eq_nil_iff.1 hd
    have q : ¬ (j : Int) < (L.length : Int) := by omega
    refine ⟨st, loopO_inr ?_, hg, Keeps.refl _ _⟩
    simp only [g22_L1, unc_cons, asI_int, un0_nil, ifB_decide, if_neg q, ownL]
  | t :: l, j, n, f, zz, st, hd, hg, hro, hb => by
    obtain ⟨hgt, hr, hlt⟩ := drop_cons hd
    have q : (j : Int) < (L.length : Int) := by omega
    have hlen := tlt hx
    rw [bytesT_cons] at hb
    obtain ⟨s1, g1, k1, n1, fa, ea⟩ := local_var (O := orc vE) (st := st) (t := 23) (z := 2) (old := [.int .u8 0, .str []]) (cs := [.int .u8 (t.1 : Int), .str t.2]) (.agg [.int .u8 (t.1 : Int), .str t.2]) rfl rfl (by rw [hro]; omega)
    have hlt1 := (St.get_ok.1 hg).1
    have gv := k1.old _ _ (fun f => f) hg
    have w1 := wrapA (show n + t.2.length ≤ 9223372036854775807 by omega)
    have w2 := wrapA1 (show j + 1 ≤ 9223372036854775807 by omega)
    have ld1 : ∀ (s : St), s.get st.h = .ok (.cells 23 [.int .u8 (t.1 : Int), .str t.2]) → ∀ {β : Type} (K : AV → List Nat → Option β), loadS 1 false (.mp st.h 1) s K = K (.str t.2) [st.h] := fun s h _ K => by rw [loadS_mp h]; rfl
    have ld0 : ∀ {β : Type} (K : AV → List Nat → Option β), loadS 1 false (.mp s41.h 0) s1 K = K (.int .i64 f) [s41.h] := fun K => by rw [loadS_mp gv]; rfl
    have step : ∀ (f' zz' : Int) (s : St), s.get s41.h = .ok (.cells 41 [.int .i64 f', .int .i64 zz']) → Keeps st s (· = s41.h) →
        g22_L1 s41 x L.length ([.int .i64 (n : Int), .int .i64 (j : Int)], st) = some (.inl ([.int .i64 ((n + t.2.length : Nat) : Int), .int .i64 ((j + 1 : Nat) : Int)], s)) → ownL f zz n (t :: l) = ownL f' zz' (n + t.2.length) l →
        ∃ st', loopO (g22_L1 s41 x L.length) ([.int .i64 (n : Int), .int .i64 (j : Int)], st) = some (0, [.int .i64 ((ownL f zz n (t :: l)).2.2 : Int)], st') ∧ st'.get s41.h = .ok (.cells 41 [.int .i64 (ownL f zz n (t :: l)).1, .int .i64 (ownL f zz n (t :: l)).2.1]) ∧ Keeps st st' (· = s41.h) := by
      intro f' zz' s hs hk h1 h2
      obtain ⟨st', e', g', k'⟩ := ownl_loop hx l (j + 1) (n + t.2.length) f' zz' s hr hs (by rw [hk.ro]; exact hro) (by omega)
      rw [h2]
      exact ⟨st', by rw [loopO_inl h1, e'], g', hk.trans k'⟩
    cases htr : trivB t with
    | true =>
      refine step f zz s1 gv (k1.weak fun _ h => h.elim) ?_ (by simp only [ownL, htr, if_true])
      simp only [g22_L1, unc_cons, asI_int, un0_nil, ifB_decide, if_pos q, toks_idx hx hgt, loadS_ip, takeO2, bindO_ok, unA_agg, asS_str, letSt_eq, ea, loadS_mp g1, List.drop_zero, call_gahead, asB_bool, htr, Bool.not_true, ifB_false, drop1, takeO_one, letV_eq, w1, w2]
    | false =>
      by_cases hf : f < 0
      · obtain ⟨s2, g2, k2, n2, fb, eb⟩ := storeF2a (.int .i64 (n : Int)) gv (by rw [k1.ro, hro]; omega)
        obtain ⟨s3, g3, k3, n3, fc, ec⟩ := storeF2b (.int .i64 ((n + t.2.length : Nat) : Int)) g2 (by rw [k2.ro, k1.ro, hro]; omega)
        have gt2 := k2.of_ne (Nat.ne_of_gt hlt1) g1
        have gt3 := k3.of_ne (Nat.ne_of_gt hlt1) gt2
        refine step (n : Int) ((n + t.2.length : Nat) : Int) s3 g3 (((k1.weak fun _ h => h.elim).trans k2).trans k3) ?_ (by simp only [ownL, htr, if_pos hf]; rfl)
        simp only [g22_L1, unc_cons, asI_int, un0_nil, ifB_decide, if_pos q, toks_idx hx hgt, loadS_ip, takeO2, bindO_ok, unA_agg, asS_str, letSt_eq, ea, loadS_mp g1, List.drop_zero, call_gahead, asB_bool, htr, Bool.not_false, ifB_true]
        simp only [ld0, asI_int, ifB_decide, if_pos hf, eb, bindO_ok, un0_nil, ld1 s2 gt2, asS_str, letV_eq, w1, w2, ec, ld1 s3 gt3]
      · obtain ⟨s3, g3, k3, n3, fc, ec⟩ := storeF2b (.int .i64 ((n + t.2.length : Nat) : Int)) gv (by rw [k1.ro, hro]; omega)
        have gt3 := k3.of_ne (Nat.ne_of_gt hlt1) g1
        refine step f ((n + t.2.length : Nat) : Int) s3 g3 ((k1.weak fun _ h => h.elim).trans k3) ?_ (by simp only [ownL, htr, if_neg hf]; rfl)
        simp only [g22_L1, unc_cons, asI_int, un0_nil, ifB_decide, if_pos q, toks_idx hx hgt, loadS_ip, takeO2, bindO_ok, unA_agg, asS_str, letSt_eq, ea, loadS_mp g1, List.drop_zero, call_gahead, asB_bool, htr, Bool.not_false, ifB_true]
        simp only [ld0, asI_int, ifB_decide, if_neg hf, bindO_ok, un0_nil, ld1 s1 g1, asS_str, letV_eq, w1, w2, ec, ld1 s3 gt3]
theorem Own_ok {t : T} (ht : Small t) (hc : cntT t ≤ 800000) {v : AV} (hN : IsN t v) {p : List Int} {x : AV} (hx : IsSl 1 x (p.map (AV.int .i64))) :
    (orc vE).bare 22 [v, x] = some (.tup [.agg [.int .i64 (ownG p t).1, .int .i64 (ownG p t).2], .int .i64 (errG (atR p t).2.2)]) := by
  obtain ⟨w, ew, hw⟩ := gat_ok ht hN hx
  have ca := fun {β : Type} (st : St) (K : Kv β) => callTx (F := 39) hN hx rfl ew st K
  obtain ⟨hsm, hle⟩ := ht.at hc p
  obtain ⟨z, ez, hz⟩ := gtoks_ok hsm.1 w hw
  have co := fun {β : Type} (st : St) (K : Kv β) => callT hw rfl ez st K
  generalize hs0 : St.mk 1 0 (Tr.node (some (VM.Obj.cells 41 [AV.int .i64 0, AV.int .i64 0])) Tr.leaf Tr.leaf) = s0
  have g0 : s0.get 0 = .ok (.cells 41 [.int .i64 0, .int .i64 0]) := by rw [← hs0]; rfl
  have hr : s0.ro = 0 := by rw [← hs0]
  have hh : s0.h = 1 := by rw [← hs0]
  obtain ⟨k, tk, tx, l, y, es, rfl, rfl, hy, hs⟩ := isN_open hN
  obtain ⟨k1, tk1, tx1, l1, y1, es1, i1, rfl, hy1, hs1⟩ := isN_open hw
  obtain ⟨s1, g1, ka, n1, fa, ea⟩ := lvN s0 (k1 : Int) (tk1 : Int) tx1 y1 (by rw [hr]; omega)
  have g01 := ka.old _ _ (fun f => f) g0
  refine bare_of rfl ((g22_eq _ _).trans ?_)
  simp only [g22, unA_agg, unc_cons, asI_int, asS_str, asB_bool, un0_nil, hy.asOne, hy.fit1, hs0, ca, unT_tup, nthS_zero, nthS_one, letSt_eq, hy1.asOne, ea]
  refine (nthS_get (v := .bool (atR p (.mk k tk tx l)).2.2) (by rfl) _).trans ?_
  cases hb : (atR p (.mk k tk tx l)).2.2 with
  | false =>
    obtain ⟨s2, g2, _, _, fb, eb⟩ := var_put (O := orc vE) (.agg [.int .i64 0, .int .i64 0]) g01 (z := 2) (cs := [.int .i64 0, .int .i64 0]) rfl rfl (by rw [ka.ro, hr]; omega)
    simp only [asB_bool, Bool.not_false, ifB_true, eb, loadS_mp g2, List.drop_zero, takeO2, bindO_ok, unA_agg, unc_cons, asI_int, un0_nil, ownG, hb]
    rfl
  | true =>
    obtain ⟨s2, g2, kb, n2, fb, eb⟩ := local_var (O := orc vE) (st := s1) (t := 41) (z := 2) (old := [.int .i64 0, .int .i64 0]) (cs := [.int .i64 (-1), .int .i64 0]) (.agg [.int .i64 (-1), .int .i64 0]) rfl rfl (by rw [ka.ro, hr]; omega)
    have g12 := kb.old _ _ (fun f => f) g1
    have g02 := kb.old _ _ (fun f => f) g01
    have hbt : (bytesT (toksG (atR p (.mk k tk tx l)).1)).length = (textG (atR p (.mk k tk tx l)).1).length := by rw [text_toks]
    obtain ⟨s3, e3, g3, k3⟩ := ownl_loop hz (s41 := s1) (toksG (atR p (.mk k tk tx l)).1) 0 (atR p (.mk k tk tx l)).2.1 (-1) 0 s2 rfl g2 (by rw [kb.ro, ka.ro]; exact hr) (by rw [hbt]; omega)
    have e3 : loopO (g22_L1 s1 z (toksG (atR p (.mk k tk tx l)).1).length) ([.int .i64 ((atR p (.mk k tk tx l)).2.1 : Int), .int .i64 0], s2) = _ := e3
    have hne : (0 : Nat) ≠ s1.h := by rw [n1, hh]; omega
    have g03 := k3.of_ne hne g02
    have l3 : ∀ {β : Type} (K : AV → List Nat → Option β), loadS 1 false (.mp s1.h 0) s3 K = K (.int .i64 (ownL (-1) 0 (atR p (.mk k tk tx l)).2.1 (toksG (atR p (.mk k tk tx l)).1)).1) [s1.h] := fun K => by rw [loadS_mp g3]; rfl
    have fin : ∀ (a b : Int) (s : St), s.get s1.h = .ok (.cells 41 [.int .i64 a, .int .i64 b]) → s.get 0 = .ok (.cells 41 [.int .i64 0, .int .i64 0]) → s.ro = 0 → (loadS 2 true (AV.mp (St.h s1) 0) s fun v150 _x => unA v150 fun l153 => unc l153 fun v154 l155 => asI .i64 v154 fun n156 => unc l155 fun v157 l158 => asI .i64 v157 fun n159 => un0 l158
        (storeS (orc vE) 2 (AV.mp 0 0) (AV.agg [AV.int .i64 n156, AV.int .i64 n159]) [AV.int .i64 n156, AV.int .i64 n159] s fun _x st161 _x_3 => loadS 2 true (AV.mp 0 0) st161 fun v163 _x => unA v163 fun l166 => unc l166 fun v167 l168 => asI .i64 v167 fun n169 => unc l168 fun v170 l171 => asI .i64 v170 fun n172 => un0 l171 (some (AV.tup [AV.agg [AV.int .i64 n169, AV.int .i64 n172], AV.int .i64 0])))) = some (.tup [.agg [.int .i64 a, .int .i64 b], .int .i64 0]) := by
      intro a b s hs1 hs2 hs3
      obtain ⟨s5, g5, _, _, f5, e5⟩ := var_put (O := orc vE) (.agg [.int .i64 a, .int .i64 b]) hs2 (z := 2) (cs := [.int .i64 a, .int .i64 b]) rfl rfl (by rw [hs3]; omega)
      simp only [loadS_mp hs1, List.drop_zero, takeO2, bindO_ok, unA_agg, unc_cons, asI_int, un0_nil, e5, loadS_mp g5]
    simp only [asB_bool, Bool.not_true, ifB_false, eb, loadS_mp g12, List.drop_zero, takeO4, bindO_ok, unA_agg, unc_cons, asI_int, asS_str, un0_nil, co, tlen hz]
    rw [e3]
    simp only [bindO_ok, unc_cons, asI_int, un0_nil, l3, ifB_decide]
    by_cases hf : (ownL (-1) 0 (atR p (.mk k tk tx l)).2.1 (toksG (atR p (.mk k tk tx l)).1)).1 < 0
    · obtain ⟨s4, g4, k4, _, f4, e4⟩ := var_put (O := orc vE) (.agg [.int .i64 ((ownL (-1) 0 (atR p (.mk k tk tx l)).2.1 (toksG (atR p (.mk k tk tx l)).1)).2.2 : Int), .int .i64 ((ownL (-1) 0 (atR p (.mk k tk tx l)).2.1 (toksG (atR p (.mk k tk tx l)).1)).2.2 : Int)]) g3 (z := 2) (cs := [.int .i64 ((ownL (-1) 0 (atR p (.mk k tk tx l)).2.1 (toksG (atR p (.mk k tk tx l)).1)).2.2 : Int), .int .i64 ((ownL (-1) 0 (atR p (.mk k tk tx l)).2.1 (toksG (atR p (.mk k tk tx l)).1)).2.2 : Int)]) rfl rfl (by rw [k3.ro, kb.ro, ka.ro, hr]; omega)
      simp only [if_pos hf, e4, bindO_ok, un0_nil, ownG, hb, if_true]
      exact fin _ _ s4 g4 (k4.of_ne hne g03) (by rw [k4.ro, k3.ro, kb.ro, ka.ro]; exact hr)
    · simp only [if_neg hf, bindO_ok, un0_nil, ownG, hb, if_true]
      exact fin _ _ s3 g3 g03 (by rw [k3.ro, kb.ro, ka.ro]; exact hr)
end Go.Proofs.YtflnfagdpoddiaaGreatDoor.Vm
set_option maxRecDepth 100000
set_option linter.unusedSimpArgs false
namespace Go.Proofs.YtflnfagdpoddiaaGreatDoor.Vm
open Go Go.VM Go.Proofs Go.Lex Go.Parse Go.Green

theorem pathI_eq (p : List Nat) : pathI p = (toI p).map (AV.int .i64) := by simp [pathI, toI]
theorem ints_els (p : List Int) : Els 1 false (p.map (AV.int .i64)) := by
  have key : ∀ v ∈ p.map (AV.int .i64), ∃ i : Int, v = .int .i64 i := fun v hv => by
    obtain ⟨i, _, rfl⟩ := List.mem_map.1 hv
    exact ⟨i, rfl⟩
  refine ⟨fun v hv => ?_, fun v hv => ?_, fun v hv c hc => ?_, fun v hv => ?_, (fun v hv h => by cases h), fun v hv _ => ?_⟩
  · obtain ⟨i, rfl⟩ := key v hv; rfl
  · obtain ⟨i, rfl⟩ := key v hv; rfl
  · obtain ⟨i, rfl⟩ := key v hv
    obtain rfl : c = .int .i64 i := by simpa [AV.cells] using hc
    exact fz_int _ _
  · obtain ⟨i, rfl⟩ := key v hv; rfl
  · obtain ⟨i, rfl⟩ := key v hv; rfl
def ClV (st : St) (v : AV) (p : List Nat) : Prop := (v = .nils ∧ p = []) ∨ (∃ id t, v = .ms id 0 1 p.length 0 ∧ st.get id = .ok (.cells t (flat (pathI p))) ∧ p ≠ [])
theorem clone_ok {x : AV} {p : List Nat} (hx : PathV x p) (hp : p.length ≤ 1000000) {st : St} : ∃ v st', ClV st' v p ∧ Keeps st st' (fun _ => False) ∧ VM.one v = true ∧ (∀ id, (∃ n, v = .ms id 0 1 n 0) → st.h ≤ id) ∧ ∃ fx, ∀ {β : Type} (K : Kv β), callS (orc vE) 42 [x] st K = K v st' fx := by
  have hw : ∀ {v : AV} {st' : St}, (orc vE).wide 42 [x] st = some (v, st') → ∀ {β : Type} (K : Kv β), callS (orc vE) 42 [x] st K = K v st' ⟨[], .all st st'⟩ := fun e _ K =>
    callS_wide K rfl (by rw [show vE.full 42 = true from rfl]; simp) e
  have nil : ∀ {x : AV}, x = .nils → p = [] → (orc vE).wide 42 [x] st = some (.nils, st) := by
    rintro x rfl _
    refine wide_of ((w42_eq _ _).trans ?_)
    rfl
  rcases hx with ⟨rfl, rfl⟩ | ⟨m, rfl, hne⟩
  · exact ⟨.nils, st, .inl ⟨rfl, rfl⟩, Keeps.refl _ _, rfl, (fun id h => by obtain ⟨n, h⟩ := h; cases h), _, fun K => hw (nil rfl rfl) K⟩
  · have hl : (pathI p).length = p.length := by simp [pathI]
    have hne' : pathI p ≠ [] := by intro h; rw [← List.length_eq_zero_iff, hl] at h; exact hne (List.length_eq_zero_iff.1 h)
    have hm := msApp_of (i := TI.mk (U.int IntKind.i64) 1 8 [AV.int .i64 0] false false) (e := 3) (z := 1) (agg := false) (pathI_eq p ▸ ints_els (toI p)) hne' (by
      rw [hl]
      have := room_of (n := p.length) (z := 1) (b := 8) (by omega) (by omega) (by omega)
      simpa [roomOk] using this)
    rw [hl] at hm
    have e : (orc vE).wide 42 [.sl 1 (pathI p) m] st = some (.ms st.h 0 1 p.length 0, st.add (.cells (1000000 + 3) (flat (pathI p)))) := by
      refine wide_of ((w42_eq _ _).trans ?_)
      have hn : ∀ {β : Type} (K : Bool → Option β), nilS (U.slice 3) (.sl 1 (pathI p) m) AV.nils K = K false := fun K => rfl
      have hel : ∀ {β : Type} (K : List AV → Option β), elemsS (.sl 1 (pathI p) m) K = K (pathI p) := fun K => rfl
      simp only [w42, hn, ifB_false, hel]
      rw [hm]
      rfl
    exact ⟨_, _, .inr ⟨st.h, _, rfl, St.get_add_new, hne⟩, Keeps.add _ _ _, rfl, (fun id h => by obtain ⟨n, h⟩ := h; cases h; exact Nat.le_refl _), _, fun K => hw e K⟩
theorem frz_path {st : St} {v : AV} {p : List Nat} (h : ClV st v p) (hp : p.length ≤ 1000000) (n : Int) : ∃ x, IsSl 1 x ((toI p).map (AV.int .i64)) ∧ ∀ {β : Type} (K : AV → Option β), frzS st 0 (.tup [v, .int .i64 n]) K = K (.tup [x, .int .i64 n]) := by
  have hi : VM.freeze st 0 99 (.int .i64 n) = .ok (.int .i64 n) := fz_int _ _ st 0 99 (by omega)
  rcases h with ⟨rfl, rfl⟩ | ⟨id, t, rfl, hg, hne⟩
  · exact ⟨.nils, IsSl.nils, fun K => frz_tup (allE_cons (fz_nils st 0 99 (by omega)) (allE_cons hi allE_nil)) rfl K⟩
  · have hl : (pathI p).length = p.length := by simp [pathI]
    have hne' : pathI p ≠ [] := by intro h; rw [← List.length_eq_zero_iff, hl] at h; exact hne (List.length_eq_zero_iff.1 h)
    have hf := freeze_ms (z := 1) (es := pathI p) (show Els 1 (Nat.ble 2 1) (pathI p) from pathI_eq p ▸ ints_els (toI p)) hg hne' 97
    rw [hl] at hf
    refine ⟨.sl 1 (pathI p) .wide, ?_, fun K => frz_tup (allE_cons hf (allE_cons hi allE_nil)) rfl K⟩
    rw [← pathI_eq]
    exact IsSl.wide (by rw [hl]; omega)

noncomputable abbrev fdV (a : Int) : List AV := [.ip [.int .i64 a], .mp 2 0, .mp 0 0, .mp 1 0]
theorem lpF_some : (lpOf vE 23 0).isSome = true := by kernel_rfl
structure FdS (a : Int) (k s : Nat) (j : Ex) (n : Nat) (v : AV) (e : Int) (st : St) : Prop where
  out : st.get 0 = .ok (.cells 36 [v])
  err : st.get 1 = .ok (.cells 33 [.int .i64 e])
  pos : st.get 2 = .ok (.cells 3 [.int .i64 (n : Int)])
  loop : st.get k = .ok (lpS vE 23 0 (fdV a) s j)
  ro : st.ro = 0
theorem ne_lp {st : St} {i k s : Nat} {t : TypeId} {cs : List AV} {a : Int} {j : Ex} (h : st.get i = .ok (.cells t cs)) (hl : st.get k = .ok (lpS vE 23 0 (fdV a) s j)) : i ≠ k := by
  rintro rfl
  rw [h] at hl
  obtain ⟨imm, ps, b, c, fr, e⟩ := lpS_open lpF_some (fdV a)
  rw [e] at hl
  cases hl
section
variable {a : Int} {k s n : Nat} {j : Ex} {v : AV} {e : Int} {st st' : St}
theorem FdS.keeps (h : FdS a k s j n v e st) (hk : Keeps st st' (fun _ => False)) : FdS a k s j n v e st' :=
  ⟨hk.old _ _ (fun f => f) h.out, hk.old _ _ (fun f => f) h.err, hk.old _ _ (fun f => f) h.pos, hk.old _ _ (fun f => f) h.loop, by rw [hk.ro]; exact h.ro⟩
theorem FdS.turn (h : FdS a k s j n v e st) (s' : Nat) (j' : Ex) : FdS a k s' j' n v e (st.put k (lpS vE 23 0 (fdV a) s' j')) := by
  have hk : Keeps st (st.put k (lpS vE 23 0 (fdV a) s' j')) (· = k) := Keeps.put rfl
  exact ⟨hk.of_ne (ne_lp h.out h.loop) h.out, hk.of_ne (ne_lp h.err h.loop) h.err, hk.of_ne (ne_lp h.pos h.loop) h.pos, by rw [St.get_put_same (St.get_ok.1 h.loop).1], h.ro⟩
theorem FdS.setOut (h : FdS a k s j n v e st) (w : AV) : ∃ st', FdS a k s j n w e st' ∧ Keeps st st' (· = 0) ∧ ∃ fx, ∀ {β : Type} (K : Kv β), storeS (orc vE) 1 (.mp 0 0) w [w] st K = K VM.undef st' fx := by
  obtain ⟨s2, g2, k2, n2, fx, e⟩ := var_put (O := orc vE) w h.out (z := 1) (cs := [w]) rfl rfl (by rw [h.ro]; omega)
  exact ⟨s2, ⟨g2, k2.of_ne (by decide) h.err, k2.of_ne (by decide) h.pos, k2.of_ne (ne_lp h.out h.loop).symm h.loop, by rw [k2.ro]; exact h.ro⟩, k2, fx, e⟩
theorem FdS.setErr (h : FdS a k s j n v e st) (w : Int) : ∃ st', FdS a k s j n v w st' ∧ Keeps st st' (· = 1) ∧ ∃ fx, ∀ {β : Type} (K : Kv β), storeS (orc vE) 1 (.mp 1 0) (.int .i64 w) [.int .i64 w] st K = K VM.undef st' fx := by
  obtain ⟨s2, g2, k2, n2, fx, e⟩ := var_put (O := orc vE) (.int .i64 w) h.err (z := 1) (cs := [.int .i64 w]) rfl rfl (by rw [h.ro]; omega)
  exact ⟨s2, ⟨k2.of_ne (by decide) h.out, g2, k2.of_ne (by decide) h.pos, k2.of_ne (ne_lp h.err h.loop).symm h.loop, by rw [k2.ro]; exact h.ro⟩, k2, fx, e⟩
theorem FdS.setPos (h : FdS a k s j n v e st) (m : Nat) : ∃ st', FdS a k s j m v e st' ∧ Keeps st st' (· = 2) ∧ ∃ fx, ∀ {β : Type} (K : Kv β), storeS (orc vE) 1 (.mp 2 0) (.int .i64 (m : Int)) [.int .i64 (m : Int)] st K = K VM.undef st' fx := by
  obtain ⟨s2, g2, k2, n2, fx, e⟩ := var_put (O := orc vE) (.int .i64 (m : Int)) h.pos (z := 1) (cs := [.int .i64 (m : Int)]) rfl rfl (by rw [h.ro]; omega)
  exact ⟨s2, ⟨k2.of_ne (by decide) h.out, k2.of_ne (by decide) h.err, g2, k2.of_ne (ne_lp h.pos h.loop).symm h.loop, by rw [k2.ro]; exact h.ro⟩, k2, fx, e⟩
end
def FdI (a : Int) (k : Nat) (d : List (List Nat × T)) (st : St) : Prop := FdS a k 0 .normal (sumL d) .nils 0 st ∧ ¬ a < (sumL d : Int)
def FdX (a : Int) (k : Nat) (d : List (List Nat × T)) (q : List Nat × T) (st : St) : Prop := ∃ v, FdS a k 2 .ret (sumL d + (textG q.2).length) v 0 st ∧ ClV st v q.1 ∧ ¬ a < (sumL d : Int) ∧ a < ((sumL d + (textG q.2).length : Nat) : Int)
theorem fd_round {a : Int} {k : Nat} {all : List (List Nat × T)} (hb : sumL all ≤ 1000000) (hall : ∀ q ∈ all, Small q.2 ∧ q.1.length ≤ 1000000) : Rnds k all (FdI a k) (FdX a k) where
  ro := fun h => by rw [h.1.ro]; omega
  keep := fun h hk => ⟨h.1.keeps hk, h.2⟩
  round := by
    rintro d ⟨p, t⟩ r st x nv hd ⟨h, hna⟩ hx hN
    obtain ⟨hsm, hpl⟩ := hall (p, t) (by rw [← hd]; simp)
    have hle : sumL d + (textG t).length ≤ 1000000 := by
      rw [← hd, sumL_app] at hb
      have : sumL ((p, t) :: r) = (textG t).length + sumL r := by simp [sumL]
      omega
    have ct := fun {β : Type} (st : St) (K : Kv β) => callT hN rfl (hsm.text hN) st K
    obtain ⟨kd, tk, tx, l, y, es, rfl, rfl, hy, hs⟩ := isN_open hN
    obtain ⟨s1, g1, k1, n1, fx1, e1⟩ := lvN st (kd : Int) (tk : Int) tx y (by rw [h.ro]; omega)
    have h1 := h.keeps k1
    have h2 := h1.turn 1 .normal
    have sl1 : ∀ {β : Type} (K : St → Option β), setLoopS k 0 1 .normal s1 K = K (s1.put k (lpS vE 23 0 (fdV a) 1 .normal)) := fun K => setLoopS_of lpF_some h1.loop K
    have kp : Keeps s1 (s1.put k (lpS vE 23 0 (fdV a) 1 .normal)) (· = k) := Keeps.put rfl
    have g2 := kp.of_ne (Nat.ne_of_gt (St.get_ok.1 h.loop).1) g1
    obtain ⟨s4, h4, k4, fx4, e4⟩ := h2.setPos (sumL d + (textG (.mk kd tk tx l)).length)
    have hw := wrapA (show sumL d + (textG (.mk kd tk tx l)).length ≤ 9223372036854775807 by omega)
    have hap : ∀ l : List Nat, apart ⟨l, .kept⟩ q0 = true := fun _ => rfl
    have hsum : sumL (d ++ [(p, T.mk kd tk tx l)]) = sumL d + (textG (.mk kd tk tx l)).length := by rw [sumL_app]; simp [sumL]
    have goal : ∃ b st', r23_0 k (.ip [.int .i64 a]) (.mp 2 0) (.mp 0 0) (.mp 1 0) x (.agg [.int .u8 (kd : Int), .int .u8 (tk : Int), .str tx, y]) st = some (.bool b, st') ∧ (b = true → FdI a k (d ++ [(p, .mk kd tk tx l)]) st') ∧ (b = false → FdX a k d (p, .mk kd tk tx l) st') := by
      by_cases hlt : a < ((sumL d + (textG (.mk kd tk tx l)).length : Nat) : Int)
      · obtain ⟨v, s5, hc5, k5, ho5, hid, fx5, e5⟩ := clone_ok hx hpl (st := s4)
        have h5 := h4.keeps k5
        obtain ⟨s6, h6, k6, fx6, e6⟩ := h5.setOut v
        obtain ⟨s7, h7, k7, fx7, e7⟩ := h6.setErr 0
        have h8 := h7.turn 2 .ret
        have sl2 : ∀ {β : Type} (K : St → Option β), setLoopS k 1 2 .ret s7 K = K (s7.put k (lpS vE 23 0 (fdV a) 2 .ret)) := fun K => setLoopS_of lpF_some h7.loop K
        have k8 : Keeps s7 (s7.put k (lpS vE 23 0 (fdV a) 2 .ret)) (· = k) := Keeps.put rfl
        have hcl : ClV (s7.put k (lpS vE 23 0 (fdV a) 2 .ret)) v p := by
          rcases hc5 with h | ⟨id, ty, rfl, hg, hne⟩
          · exact .inl h
          · have hi := hid id ⟨_, rfl⟩
            have i0 := (St.get_ok.1 h4.out).1
            have i1 := (St.get_ok.1 h4.err).1
            have ik := (St.get_ok.1 h4.loop).1
            exact .inr ⟨id, ty, rfl, k8.of_ne (by omega) (k7.of_ne (by omega) (k6.of_ne (by omega) hg)), hne⟩
        refine ⟨false, _, ?_, (fun h => by cases h), fun _ => ⟨v, h8, hcl, hna, hlt⟩⟩
        simp only [r23_0, unA_agg, unc_cons, asI_int, asS_str, un0_nil, letSt_eq, hy.asOne, e1, sl1, loadS_mp h2.pos, loadS_mp g2, List.drop_zero, takeO_one, takeO4, bindO_ok, ct, hap, Bool.and_self, chk_true, letV_eq, hw, e4, loadS_ip, loadS_mp h4.pos, ifB_decide, if_pos hlt, e5, asOne_of ho5, e6, e7, sl2]
      · have h8 := h4.turn 0 .normal
        have sl2 : ∀ {β : Type} (K : St → Option β), setLoopS k 1 0 .normal s4 K = K (s4.put k (lpS vE 23 0 (fdV a) 0 .normal)) := fun K => setLoopS_of lpF_some h4.loop K
        refine ⟨true, _, ?_, fun _ => ⟨by rw [hsum]; exact h8, by rw [hsum]; exact hlt⟩, (fun h => by cases h)⟩
        simp only [r23_0, unA_agg, unc_cons, asI_int, asS_str, un0_nil, letSt_eq, hy.asOne, e1, sl1, loadS_mp h2.pos, loadS_mp g2, List.drop_zero, takeO_one, takeO4, bindO_ok, ct, hap, Bool.and_self, chk_true, letV_eq, hw, e4, loadS_ip, loadS_mp h4.pos, ifB_decide, if_neg hlt, sl2]
    obtain ⟨b, st', e, h5, h6⟩ := goal
    exact ⟨b, st', round_of (vs := fdV a) h.loop (by rw [h.ro]; omega) ((r23_0_eq _ _ _ _ _ _ _ _).trans e), h5, h6⟩
mutual
theorem lv_len : ∀ (t : T) (p : List Nat), ∀ q ∈ lv p t, lenT q.2 ≤ lenT t ∧ q.1.length ≤ p.length + depT t
  | .mk k tk tx l, p, q, h => by
    simp only [lv] at h
    by_cases h1 : k = 1
    · rw [if_pos h1] at h; simp at h; rw [h]; exact ⟨Nat.le_refl _, Nat.le_add_right _ _⟩
    · by_cases h2 : k = 2
      · rw [if_neg h1, if_pos h2] at h; cases h
      · rw [if_neg h1, if_neg h2] at h
        have := lv_lenL l p 0 q h
        simp only [lenT, depT]; omega
theorem lv_lenL : ∀ (l : List T) (p : List Nat) (i : Nat), ∀ q ∈ lvL p i l, lenT q.2 ≤ lenL l ∧ q.1.length ≤ p.length + 1 + depL l
  | [], _, _, q, h => by cases h
  | t :: l, p, i, q, h => by
    simp only [lvL] at h
    simp only [lenL, depL]
    rcases List.mem_append.1 h with h | h
    · have := lv_len t _ q h
      simp only [List.length_append, List.length_cons, List.length_nil] at this
      omega
    · have := lv_lenL l p (i + 1) q h; omega
end
def findV (t : T) (a : Int) : List Int × Int :=
  match findG t a with
  | some p => (toI p, 0)
  | none => ([], 1)
theorem Find_ok {t : T} (ht : Small t) (hc : cntT t ≤ 800000) {v : AV} (hN : IsN t v) (a : Int) :
    ∃ x, (orc vE).bare 23 [v, .int .i64 a] = some (.tup [x, .int .i64 (findV t a).2]) ∧ IsSl 1 x ((findV t a).1.map (AV.int .i64)) := by
  obtain ⟨k, tk, tx, l, y, es, rfl, rfl, hy, hs⟩ := isN_open hN
  by_cases ha : a < 0
  · refine ⟨.nils, bare_of rfl ((g23_eq _ _).trans ?_), by simp only [findV, findG, if_pos ha]; exact IsSl.nils⟩
    simp only [g23, unA_agg, unc_cons, asI_int, asS_str, un0_nil, hy.asOne, hy.fit1, ifB_decide, if_pos ha, findV, findG]
  · have hdep := dep_cnt (.mk k tk tx l)
    have hall : ∀ q ∈ lv [] (.mk k tk tx l), Small q.2 ∧ q.1.length ≤ 1000000 := fun q hq => by
      have h1 := lv_cnt _ _ q hq
      have h2 := lv_len _ _ q hq
      have h3 := ht.2
      simp only [List.length_nil] at h2
      exact ⟨⟨by omega, by omega⟩, by omega⟩
    have hsum : sumL (lv [] (.mk k tk tx l)) ≤ 1000000 := by
      rw [sum_lv]
      have h1 := (toks_bound (.mk k tk tx l)).2
      have h3 := ht.2
      omega
    have hR := fd_round (a := a) (k := 3) hsum hall
    generalize hs0 : (St.mk 3 0 (Tr.node (some (VM.Obj.cells 36 [AV.nils])) (Tr.node (some (VM.Obj.cells 33 [AV.int .i64 0])) Tr.leaf Tr.leaf) (Tr.node (some (VM.Obj.cells 3 [AV.int .i64 0])) Tr.leaf Tr.leaf))) = s0
    have hh : s0.h = 3 := by rw [← hs0]
    have hi0 : FdI a 3 [] (s0.add (lpS vE 23 0 (fdV a) 0 .normal)) := by
      refine ⟨?_, by simpa [sumL] using ha⟩
      rw [← hs0]
      exact ⟨rfl, rfl, rfl, St.get_add_new, rfl⟩
    obtain ⟨b, s1, e, hw⟩ := range_ok hR hN (by omega) rfl hi0
    have rg : ∀ (s : Nat) (j : Ex) (n : Nat) (w : AV), FdS a 3 s j n w 0 s1 → (s = 0 ∨ s = 2) → ∀ {β : Type} (K : Ex → St → Option β), rangeS (orc vE) (.fn (.func 46) [] [.ip [.int .u8 (k : Int), .int .u8 (tk : Int), .str tx, y]]) (lpS vE 23 0 (fdV a) 0 .normal) s0 K = K j (s1.put 3 .dead) := by
      intro s j n w h hs β K
      rw [rangeS_lp lpF_some (v := .tup []) (st1 := s1) (s := s) (p := j) (vs := fdV a) (by rw [hh]; exact e) (by rw [hh]; exact h.loop) hs, hh]
    have hk : Keeps s1 (s1.put 3 VM.Obj.dead) (· = 3) := Keeps.put rfl
    cases b with
    | true =>
      obtain ⟨h, hna⟩ := hw.1 rfl
      rw [List.nil_append] at h hna
      have hno : findL a 0 (lv [] (.mk k tk tx l)) = none := by
        have := find_skip a (lv [] (.mk k tk tx l)) [] 0 (by rw [Nat.zero_add]; exact hna)
        rw [List.append_nil] at this
        rw [this]; rfl
      have g0 := hk.of_ne (by decide) h.out
      have g1 := hk.of_ne (by decide) h.err
      have hro : (s1.put 3 VM.Obj.dead).ro = 0 := h.ro
      obtain ⟨s2, g2, k2, _, f2, e2⟩ := var_put (O := orc vE) .nils g0 (z := 1) (cs := [.nils]) rfl rfl (by rw [hro]; omega)
      have g12 := k2.of_ne (by decide) g1
      obtain ⟨s3, g3, k3, _, f3, e3⟩ := var_put (O := orc vE) (.int .i64 1) g12 (z := 1) (cs := [.int .i64 1]) rfl rfl (by rw [k2.ro, hro]; omega)
      have gzz := k3.of_ne (by decide) g2
      have hv : findV (.mk k tk tx l) a = ([], 1) := by simp only [findV, findG, if_neg ha, hno]
      refine ⟨.nils, bare_of rfl ((g23_eq _ _).trans ?_), by rw [hv]; exact IsSl.nils⟩
      rw [hv]
      simp only [g23, unA_agg, unc_cons, asI_int, asS_str, un0_nil, hy.asOne, hy.fit1, ifB_decide, if_neg ha, hs0, callT hN rfl (leaves_ok hy)]
      refine (rg 0 .normal _ _ h (.inl rfl) _).trans ?_
      simp only [jumpIf_same, e2, e3, loadS_mp g3, loadS_mp gzz, List.drop_zero, takeO_one, bindO_ok, asI_int]
      exact frz_of (d := 2) (fz_tup (d := 1) fun c hc => by
        simp only [List.mem_cons, List.mem_nil_iff, or_false] at hc
        rcases hc with rfl | rfl
        · exact fz_nils
        · exact fz_int _ _) (by omega) rfl _ _ _
    | false =>
      obtain ⟨l1, q, l2, hl, w, h, hcl, hna, hlt⟩ := hw.2 rfl
      rw [List.nil_append] at h hna hlt
      have hfd : findL a 0 (lv [] (.mk k tk tx l)) = some q.1 := by
        rw [hl, find_skip a l1 (q :: l2) 0 (by rw [Nat.zero_add]; exact hna), Nat.zero_add]
        simp only [findL, if_pos hlt]
      have hpl := (hall q (by rw [hl]; simp)).2
      have g0 := hk.of_ne (by decide) h.out
      have g1 := hk.of_ne (by decide) h.err
      have hcl2 : ClV (s1.put 3 VM.Obj.dead) w q.1 := by
        rcases hcl with h' | ⟨id, ty, rfl, hg, hne⟩
        · exact .inl h'
        · exact .inr ⟨id, ty, rfl, hk.of_ne (ne_lp hg h.loop) hg, hne⟩
      have hv : findV (.mk k tk tx l) a = (toI q.1, 0) := by simp only [findV, findG, if_neg ha, hfd]
      obtain ⟨x, hx, hf⟩ := frz_path hcl2 hpl 0
      refine ⟨x, bare_of rfl ((g23_eq _ _).trans ?_), by rw [hv]; exact hx⟩
      rw [hv]
      simp only [g23, unA_agg, unc_cons, asI_int, asS_str, un0_nil, hy.asOne, hy.fit1, ifB_decide, if_neg ha, hs0, callT hN rfl (leaves_ok hy)]
      refine (rg 2 .ret _ _ h (.inr rfl) _).trans ?_
      rw [jumpIf_ne (by intro h; cases h)]
      simp only [jumpIf_same, loadS_mp g0, loadS_mp g1, List.drop_zero, takeO_one, bindO_ok, asI_int]
      exact hf _
end Go.Proofs.YtflnfagdpoddiaaGreatDoor.Vm
set_option maxRecDepth 1000000
set_option maxHeartbeats 0
namespace Go.Proofs.YtflnfagdpoddiaaGreatDoor.Vm
open Go Go.VM Go.Proofs
noncomputable def g19 : Option AV := callS (orc vE) 28 [] (St.mk 0 0 Tr.leaf) fun v0 st1 _x => unF v0 fun n7 n10 l13 v14 => (letSt (St.add st1 (VM.Obj.cells 26 [AV.int .u8 0, AV.int .u8 0, AV.str [], AV.nils])) fun st16 => asOne v14 (storeS (orc vE) 4 (AV.mp (St.h st1) 0) (AV.agg [AV.int .u8 n7, AV.int .u8 n10, AV.str l13, v14]) [AV.int .u8 n7, AV.int .u8 n10, AV.str l13, v14] st16 fun _x st18 _x_1 => loadS 4 true (AV.mp (St.h st1) 0) st18 fun v20 _x => unF v20 fun n26 n29 l32 v33 => (callS (orc vE) 21 [AV.agg [AV.int .u8 n26, AV.int .u8 n29, AV.str l32, v33], AV.sl 1 [AV.int .i64 1] Perm.shut] st18 fun v35 st36 _x => unT v35 fun l38 => nthS l38 0 fun v39 => unP v39 fun n44 n47 => (unT v35 fun l48 => nthS l48 1 fun v49 => asI .i64 v49 fun n50 => letSt (St.add st36 (VM.Obj.cells 41 [AV.int .i64 0, AV.int .i64 0])) fun st51 => storeS (orc vE) 2 (AV.mp (St.h st36) 0) (AV.agg [AV.int .i64 n44, AV.int .i64 n47]) [AV.int .i64 n44, AV.int .i64 n47] st51 fun _x st53 _x_2 => loadS 4 true (AV.mp (St.h st1) 0) st53 fun v55 _x => unF v55 fun n61 n64 l67 v68 => (callS (orc vE) 22 [AV.agg [AV.int .u8 n61, AV.int .u8 n64, AV.str l67, v68], AV.sl 1 [AV.int .i64 1] Perm.shut] st53 fun v70 st71 _x => unT v70 fun l73 => nthS l73 0 fun v74 => unP v74 fun n79 n82 => (unT v70 fun l83 => nthS l83 1 fun v84 => asI .i64 v84 fun n85 => letSt (St.add st71 (VM.Obj.cells 41 [AV.int .i64 0, AV.int .i64 0])) fun st86 => storeS (orc vE) 2 (AV.mp (St.h st71) 0) (AV.agg [AV.int .i64 n79, AV.int .i64 n82]) [AV.int .i64 n79, AV.int .i64 n82] st86 fun _x st88 _x_3 => loadS 4 true (AV.mp (St.h st1) 0) st88 fun v90 _x => unF v90 fun n96 n99 l102 v103 => (callS (orc vE) 22 [AV.agg [AV.int .u8 n96, AV.int .u8 n99, AV.str l102, v103], AV.sl 1 [AV.int .i64 2] Perm.shut] st88 fun v105 st106 _x => unT v105 fun l108 => nthS l108 0 fun v109 => unP v109 fun n114 n117 => (unT v105 fun l118 => nthS l118 1 fun v119 => asI .i64 v119 fun n120 => letSt (St.add st106 (VM.Obj.cells 41 [AV.int .i64 0, AV.int .i64 0])) fun st121 => storeS (orc vE) 2 (AV.mp (St.h st106) 0) (AV.agg [AV.int .i64 n114, AV.int .i64 n117]) [AV.int .i64 n114, AV.int .i64 n117] st121 fun _x st123 _x_4 => loadS 4 true (AV.mp (St.h st1) 0) st123 fun v125 _x => unF v125 fun n131 n134 l137 v138 => (callS (orc vE) 23 [AV.agg [AV.int .u8 n131, AV.int .u8 n134, AV.str l137, v138], AV.int .i64 3] st123 fun v140 st141 _x => unT v140 fun l143 => nthS l143 0 fun v144 => unT v140 fun l145 => nthS l145 1 fun v146 => asI .i64 v146 fun n147 => loadS 4 true (AV.mp (St.h st1) 0) st141 fun v148 _x => unF v148 fun n154 n157 l160 v161 => (callS (orc vE) 23 [AV.agg [AV.int .u8 n154, AV.int .u8 n157, AV.str l160, v161], AV.int .i64 5] st141 fun v163 st164 _x => unT v163 fun l166 => nthS l166 0 fun v167 => unT v163 fun l168 => nthS l168 1 fun v169 => asI .i64 v169 fun n170 => loadS 4 true (AV.mp (St.h st1) 0) st164 fun v171 _x => unF v171 fun n177 n180 l183 v184 => (callS (orc vE) 23 [AV.agg [AV.int .u8 n177, AV.int .u8 n180, AV.str l183, v184], AV.int .i64 6] st164 fun v186 st187 _x => unT v186 fun l189 => nthS l189 0 fun _x => unT v186 fun l191 => nthS l191 1 fun v192 => asI .i64 v192 fun n193 => bindO (loadS 4 true (AV.mp (St.h st1) 0) st187 fun v194 _x => unF v194 fun n200 n203 l206 v207 => (callS (orc vE) 10 [AV.agg [AV.int .u8 n200, AV.int .u8 n203, AV.str l206, v207]] st187 fun v209 st210 _x => asS v209 fun l212 => ifB (l212 == [108, 101, 116, 32, 120, 10]) (loadS 4 true (AV.mp (St.h st1) 0) st210 fun v213 _x => unF v213 fun n219 n222 l225 v226 => (callS (orc vE) 13 [AV.agg [AV.int .u8 n219, AV.int .u8 n222, AV.str l225, v226]] st210 fun v228 st229 _x => lenS v228 fun k231 => ifB ((↑k231 : Int) == 4) (ifB (n50 == 0) (loadS 2 true (AV.mp (St.h st36) 0) st229 fun v232 _x => unP v232 fun n238 n241 => (bindO (toO (VM.binOp (Env.T vE) BinOp.eql 41 (AV.agg [AV.int .i64 n238, AV.int .i64 n241]) (AV.agg [AV.int .i64 3, AV.int .i64 5]))) fun v243 => asB v243 fun b244 => ifB b244 (ifB (n85 == 0) (loadS 2 true (AV.mp (St.h st71) 0) st229 fun v245 _x => unP v245 fun n251 n254 => (bindO (toO (VM.binOp (Env.T vE) BinOp.eql 41 (AV.agg [AV.int .i64 n251, AV.int .i64 n254]) (AV.agg [AV.int .i64 4, AV.int .i64 5]))) fun v256 => asB v256 fun b257 => ifB b257 (ifB (n120 == 0) (loadS 2 true (AV.mp (St.h st106) 0) st229 fun v258 _x => unP v258 fun n264 n267 => (bindO (toO (VM.binOp (Env.T vE) BinOp.eql 41 (AV.agg [AV.int .i64 n264, AV.int .i64 n267]) (AV.agg [AV.int .i64 5, AV.int .i64 5]))) fun v269 => asB v269 fun b270 => ifB b270 (ifB (n147 == 0) (callS (orc vE) 24 [v144, AV.sl 1 [AV.int .i64 1] Perm.shut] st229 fun v271 st272 _x => asB v271 fun b274 => ifB b274 (ifB (n170 == 0) (callS (orc vE) 24 [v167, AV.sl 1 [AV.int .i64 3] Perm.shut] st272 fun v275 st276 _x => asB v275 fun b278 => ifB b278 (ifB (n193 == 1) (loadS 4 true (AV.mp (St.h st1) 0) st276 fun v279 _x => unF v279 fun n285 n288 l291 v292 => (callS (orc vE) 15 [AV.agg [AV.int .u8 n285, AV.int .u8 n288, AV.str l291, v292]] st276 fun v294 st295 _x => asI .i64 v294 fun n297 => some ([AV.bool (n297 == 0)], st295))) (some ([AV.bool false], st276))) (some ([AV.bool false], st276))) (some ([AV.bool false], st272))) (some ([AV.bool false], st272))) (some ([AV.bool false], st229))) (some ([AV.bool false], st229)))) (some ([AV.bool false], st229))) (some ([AV.bool false], st229)))) (some ([AV.bool false], st229))) (some ([AV.bool false], st229)))) (some ([AV.bool false], st229))) (some ([AV.bool false], st229)))) (some ([AV.bool false], st210)))) fun c298 => unc (Prod.fst c298) fun v299 l300 => asB v299 fun b301 => un0 l300 (some (AV.bool b301)))))))))))))
theorem g19_eq : bareS vE 19 [] = g19 := by kernel_rfl
end Go.Proofs.YtflnfagdpoddiaaGreatDoor.Vm
set_option maxRecDepth 1000000
set_option maxHeartbeats 0
namespace Go.Proofs.YtflnfagdpoddiaaGreatDoor.Vm
open Go Go.VM Go.Proofs
noncomputable def g28 : Option AV := callS (orc vE) 26 [AV.int .u8 3, AV.str [108, 101, 116], AV.nils] (St.mk 1 0 (Tr.node (some (VM.Obj.cells 26 [AV.int .u8 0, AV.int .u8 0, AV.str [], AV.nils])) Tr.leaf Tr.leaf)) fun v0 st1 _x => unF v0 fun n7 n10 l13 v14 => (callS (orc vE) 27 [AV.str [32]] st1 fun v16 st17 _x => unF v16 fun n23 n26 l29 v30 => (asOne v30 (asOne v30 (fit1 v30 fun v32 => callS (orc vE) 26 [AV.int .u8 4, AV.str [120], AV.sl 4 [AV.agg [AV.int .u8 n23, AV.int .u8 n26, AV.str l29, v32]] Perm.shut] st17 fun v33 st34 _x => unF v33 fun n40 n43 l46 v47 => (callS (orc vE) 27 [AV.str [10]] st34 fun v51 st52 _x => unF v51 fun n58 n61 l64 v65 => (asOne v65 (asOne v65 (fit1 v65 fun v67 => callS (orc vE) 26 [AV.int .u8 0, AV.str [], AV.sl 4 [AV.agg [AV.int .u8 n58, AV.int .u8 n61, AV.str l64, v67]] Perm.shut] st52 fun v68 st69 _x => unF v68 fun n75 n78 l81 v82 => (asOne v14 (asOne v47 (asOne v82 (asOne v14 (fit1 v14 fun v84 => asOne v47 (fit1 v47 fun v85 => asOne v82 (fit1 v82 fun v86 => storeS (orc vE) 4 (AV.mp 0 0) (AV.agg [AV.int .u8 4, AV.int .u8 0, AV.str [], AV.sl 4 [AV.agg [AV.int .u8 n7, AV.int .u8 n10, AV.str l13, v84], AV.agg [AV.int .u8 n40, AV.int .u8 n43, AV.str l46, v85], AV.agg [AV.int .u8 2, AV.int .u8 0, AV.str [61], AV.nils], AV.agg [AV.int .u8 n75, AV.int .u8 n78, AV.str l81, v86]] Perm.shut]) [AV.int .u8 4, AV.int .u8 0, AV.str [], AV.sl 4 [AV.agg [AV.int .u8 n7, AV.int .u8 n10, AV.str l13, v84], AV.agg [AV.int .u8 n40, AV.int .u8 n43, AV.str l46, v85], AV.agg [AV.int .u8 2, AV.int .u8 0, AV.str [61], AV.nils], AV.agg [AV.int .u8 n75, AV.int .u8 n78, AV.str l81, v86]] Perm.shut] st69 fun _x st89 _x_1 => loadS 4 true (AV.mp 0 0) st89 fun v91 _x => unF v91 fun n97 n100 l103 v104 => (frzS st89 0 (AV.agg [AV.int .u8 n97, AV.int .u8 n100, AV.str l103, v104]) fun v106 => some v106))))))))))))))))
theorem g28_eq : bareS vE 28 [] = g28 := by kernel_rfl
end Go.Proofs.YtflnfagdpoddiaaGreatDoor.Vm
set_option maxRecDepth 100000
set_option linter.unusedSimpArgs false
namespace Go.Proofs.YtflnfagdpoddiaaGreatDoor.Vm
open Go Go.VM Go.Proofs Go.Lex Go.Parse Go.Green

theorem leaf_ok (k : Int) (s : List UInt8) {x : AV} {es : List AV} (hx : IsSl 4 x es) : (orc vE).bare 26 [.int .u8 k, .str s, x] = some (.agg [.int .u8 1, .int .u8 k, .str s, x]) := by
  refine bare_of rfl ((g26_eq _ _ _).trans ?_)
  simp only [g26, asI_int, asS_str, hx.asOne]
  refine frz_of (d := 2) (fz_agg (d := 1) fun c hc => ?_) (by omega) ?_ _ _ _
  · simp only [List.mem_cons, List.mem_nil_iff, or_false] at hc
    rcases hc with rfl | rfl | rfl | rfl
    · exact fz_int _ _
    · exact fz_int _ _
    · exact fz_str _
    · exact fz_sl hx
  · rw [bare_agg]; simp only [bares_cons, hx.bare]; rfl
theorem call_leaf (k : Int) (s : List UInt8) {x : AV} {es : List AV} (hx : IsSl 4 x es) {β : Type} (st : St) (K : Kv β) : callS (orc vE) 26 [.int .u8 k, .str s, x] st K = K (.agg [.int .u8 1, .int .u8 k, .str s, x]) st q0 :=
  callS_bare st K rfl (by simp only [List.map_cons, List.map_nil, hx.strip]; rfl) (by simp only [bares_cons, hx.bare]; rfl) (leaf_ok k s hx)
theorem blank_ok' (s : List UInt8) : (orc vE).bare 27 [.str s] = some (.agg [.int .u8 1, .int .u8 1, .str s, .nils]) := by
  have hN : IsN (.mk 1 1 s []) (.agg [.int .u8 1, .int .u8 1, .str s, .nils]) := by simp only [IsN]; exact ⟨_, _, rfl, IsSl.nils, IsNs.nil⟩
  generalize hs0 : St.mk 1 0 (Tr.node (some (VM.Obj.cells ND [AV.int .u8 0, AV.int .u8 0, AV.str [], AV.nils])) Tr.leaf Tr.leaf) = s0
  have g0 : s0.get 0 = .ok (.cells ND z4) := by rw [← hs0]; rfl
  have hr : s0.ro = 0 := by rw [← hs0]
  obtain ⟨s2, g2, _, _, fb, eb⟩ := pvN g0 rfl 1 1 s .nils (by rw [hr]; omega)
  refine bare_of rfl ((g27_eq _).trans ?_)
  simp only [g27, asS_str, hs0, call_leaf 1 s IsSl.nils, unA_agg, unc_cons, asI_int, un0_nil, IsSl.nils.asOne (z := 4), eb, loadS_mp g2, List.drop_zero, takeO4, bindO_ok]
  exact frz_of (isN_fz hN) (by omega) (isN_one hN).1 _ _ _
theorem call_blank (s : List UInt8) {β : Type} (st : St) (K : Kv β) : callS (orc vE) 27 [.str s] st K = K (.agg [.int .u8 1, .int .u8 1, .str s, .nils]) st q0 :=
  callS_bare st K rfl rfl rfl (blank_ok' s)
def exT : T := .mk 4 0 [] [.mk 1 3 [108, 101, 116] [], .mk 1 4 [120] [.mk 1 1 [32] []], .mk 2 0 [61] [], .mk 1 0 [] [.mk 1 1 [10] []]]
def bkV (c : UInt8) : AV := .agg [.int .u8 1, .int .u8 1, .str [c], .nils]
def exV : AV := .agg [.int .u8 4, .int .u8 0, .str [], .sl 4 [.agg [.int .u8 1, .int .u8 3, .str [108, 101, 116], .nils], .agg [.int .u8 1, .int .u8 4, .str [120], .sl 4 [bkV 32] .shut], .agg [.int .u8 2, .int .u8 0, .str [61], .nils], .agg [.int .u8 1, .int .u8 0, .str [], .sl 4 [bkV 10] .shut]] .shut]
theorem isN_bk (c : UInt8) : IsN (.mk 1 1 [c] []) (bkV c) := by simp only [IsN, bkV]; exact ⟨_, _, rfl, IsSl.nils, IsNs.nil⟩
theorem isN_ex : IsN exT exV := by
  simp only [exT, exV, IsN]
  refine ⟨_, _, rfl, IsSl.shut (by simp), ?_⟩
  refine IsNs.cons ?_ (IsNs.cons ?_ (IsNs.cons ?_ (IsNs.cons ?_ IsNs.nil)))
  · simp only [IsN]; exact ⟨_, _, rfl, IsSl.nils, IsNs.nil⟩
  · simp only [IsN]; exact ⟨_, _, rfl, IsSl.shut (by simp), IsNs.cons (isN_bk _) IsNs.nil⟩
  · simp only [IsN]; exact ⟨_, _, rfl, IsSl.nils, IsNs.nil⟩
  · simp only [IsN]; exact ⟨_, _, rfl, IsSl.shut (by simp), IsNs.cons (isN_bk _) IsNs.nil⟩
theorem example_ok : (orc vE).bare 28 [] = some exV := by
  generalize hs0 : St.mk 1 0 (Tr.node (some (VM.Obj.cells ND [AV.int .u8 0, AV.int .u8 0, AV.str [], AV.nils])) Tr.leaf Tr.leaf) = s0
  have g0 : s0.get 0 = .ok (.cells ND z4) := by rw [← hs0]; rfl
  have hr : s0.ro = 0 := by rw [← hs0]
  refine bare_of rfl (g28_eq.trans ?_)
  have h1 : ∀ c : UInt8, IsSl 4 (.sl 4 [.agg [.int .u8 1, .int .u8 1, .str [c], .nils]] .shut) [.agg [.int .u8 1, .int .u8 1, .str [c], .nils]] := fun c => IsSl.shut (by simp)
  obtain ⟨s2, g2, _, _, fb, eb⟩ := pvN g0 rfl 4 0 [] (.sl 4 [.agg [.int .u8 1, .int .u8 3, .str [108, 101, 116], .nils], .agg [.int .u8 1, .int .u8 4, .str [120], .sl 4 [bkV 32] .shut], .agg [.int .u8 2, .int .u8 0, .str [61], .nils], .agg [.int .u8 1, .int .u8 0, .str [], .sl 4 [bkV 10] .shut]] .shut) (by rw [hr]; omega)
  simp only [bkV] at eb g2
  simp only [g28, hs0, call_leaf _ _ IsSl.nils, call_blank, unA_agg, unc_cons, asI_int, asS_str, un0_nil, IsSl.nils.asOne (z := 4), IsSl.nils.fit1 (z := 4), call_leaf _ _ (h1 _), (h1 _).asOne, (h1 _).fit1]
  simp only [asOne_of (show VM.one (.sl 4 _ .shut) = true from rfl), eb, loadS_mp g2, List.drop_zero, takeO4, bindO_ok, unA_agg, unc_cons, asI_int, asS_str, un0_nil]
  exact frz_of (isN_fz isN_ex) (by omega) (isN_one isN_ex).1 _ _ _
def eqIs : List Int → List Int → Bool
  | a :: l, b :: m => a == b && eqIs l m
  | _, _ => true
def eqPs (l m : List Int) : Bool := l.length == m.length && eqIs l m
theorem paths_loop {x y : AV} {l m : List Int} (hx : IsSl 1 x (l.map (AV.int .i64))) (hy : IsSl 1 y (m.map (AV.int .i64))) (hl : l.length = m.length) (st : St) : ∀ (a b : List Int) (j : Nat), l.drop j = a → m.drop j = b →
    loopO (g24_L1 x y) ([.bool false, .int .i64 (j : Int)], st) = some (if eqIs a b then 0 else 1, [.bool false], st)
  | [], b, j, ha, hb => by
    have := List.drop_eq_nil_iff.1 ha
    have q : ¬ (j : Int) < (l.length : Int) := by omega
    have hln : ∀ {γ : Type} (K : Nat → Option γ), lenS x K = K l.length := fun K => by rw [hx.len, List.length_map]
    refine loopO_inr ?_
    simp only [g24_L1, unc_cons, asB_bool, asI_int, un0_nil, hln, ifB_decide, if_neg q]
    simp [eqIs]
  | t :: a, [], j, ha, hb => by
    have h1 := List.drop_eq_nil_iff.1 hb
    have h2 := (drop_cons ha).2.2
    omega
  | t :: a, u :: b, j, ha, hb => by
    obtain ⟨hg, hr, hlt⟩ := drop_cons ha
    obtain ⟨hg', hr', _⟩ := drop_cons hb
    have q : (j : Int) < (l.length : Int) := by omega
    have h1 : l.length ≤ 9223372036854775807 := by have := hx.1; rwa [List.length_map] at this
    have hln : ∀ {γ : Type} (K : Nat → Option γ), lenS x K = K l.length := fun K => by rw [hx.len, List.length_map]
    have i1 : ∀ {β : Type} (st : St) (K : AV → List Nat → Option β), idxA 1 x (j : Int) st K = K (.ip [.int .i64 t]) [] := fun st K => hx.idx (by rw [List.getElem?_map, hg]; rfl) st K
    have i2 : ∀ {β : Type} (st : St) (K : AV → List Nat → Option β), idxA 1 y (j : Int) st K = K (.ip [.int .i64 u]) [] := fun st K => hy.idx (by rw [List.getElem?_map, hg']; rfl) st K
    have e : g24_L1 x y ([.bool false, .int .i64 (j : Int)], st) = ifB (t != u) (some (.inr (1, [.bool false], st))) (some (.inl ([.bool false, .int .i64 ((j + 1 : Nat) : Int)], st))) := by
      simp only [g24_L1, unc_cons, asB_bool, asI_int, un0_nil, hln, ifB_decide, if_pos q, i1, i2, loadS_ip, takeO_one, bindO_ok, letV_eq, wrapA1 (show j + 1 ≤ 9223372036854775807 by omega)]
    cases h : t == u with
    | false => rw [show (t != u) = true by rw [bne, h]; rfl] at e; rw [loopO_inr e]; simp [eqIs, h]
    | true => rw [show (t != u) = false by rw [bne, h]; rfl] at e; rw [loopO_inl e, paths_loop hx hy hl st a b (j + 1) hr hr']; simp [eqIs, h]
theorem paths_ok {x y : AV} {l m : List Int} (hx : IsSl 1 x (l.map (AV.int .i64))) (hy : IsSl 1 y (m.map (AV.int .i64))) : (orc vE).bare 24 [x, y] = some (.bool (eqPs l m)) := by
  have hl1 : ∀ {γ : Type} (K : Nat → Option γ), lenS x K = K l.length := fun K => by rw [hx.len, List.length_map]
  have hl2 : ∀ {γ : Type} (K : Nat → Option γ), lenS y K = K m.length := fun K => by rw [hy.len, List.length_map]
  refine bare_of rfl ((g24_eq _ _).trans ?_)
  simp only [g24, hl1, hl2, nat_bneI, eqPs]
  by_cases hl : l.length = m.length
  · have e : loopO (g24_L1 x y) ([.bool false, .int .i64 0], St.mk 0 0 Tr.leaf) = _ := paths_loop hx hy hl S0 l m 0 rfl rfl
    simp only [beq_iff_eq.2 hl, Bool.not_true, ifB_false, Bool.true_and]
    rw [e]
    exact sel_end _ _
  · simp only [beq_eq_false_iff_ne.2 hl, Bool.not_false, ifB_true, Bool.false_and]
theorem call_paths {x y : AV} {l m : List Int} (hx : IsSl 1 x (l.map (AV.int .i64))) (hy : IsSl 1 y (m.map (AV.int .i64))) {β : Type} (st : St) (K : Kv β) : callS (orc vE) 24 [x, y] st K = K (.bool (eqPs l m)) st q0 :=
  call2 hx hy rfl (paths_ok hx hy) st K
theorem ex_small : Small exT := ⟨by decide, by decide⟩
theorem ex_check : checkN exT = 0 := by kernel_rfl
theorem isP (p : List Int) : p.length ≤ 1000000 → IsSl 1 (.sl 1 (p.map (AV.int .i64)) .shut) (p.map (AV.int .i64)) := fun h => IsSl.shut (by rw [List.length_map]; omega)
theorem callTi {F : FuncId} {t : T} {v r : AV} {a : Int} (hN : IsN t v) (hf : vE.full F = false) (h : (orc vE).bare F [v, .int .i64 a] = some r) {β : Type} (st : St) (K : Kv β) : callS (orc vE) F [v, .int .i64 a] st K = K r st q0 :=
  callS_bare st K hf (by simp only [List.map_cons, List.map_nil, (isN_one hN).2]; rfl) (by simp only [bares_cons, (isN_one hN).1]; rfl) h
end Go.Proofs.YtflnfagdpoddiaaGreatDoor.Vm
set_option maxRecDepth 100000
set_option linter.unusedSimpArgs false
namespace Go.Proofs.YtflnfagdpoddiaaGreatDoor.Vm
open Go Go.VM Go.Proofs Go.Lex Go.Parse Go.Green

theorem eqt_span (a b c d : Int) : eqT (Env.T vE) 20 41 (.agg [.int .i64 a, .int .i64 b]) (.agg [.int .i64 c, .int .i64 d]) = .ok (a == c && b == d) := by
  show (match (a == c) with | true => (match (b == d) with | true => Except.ok true | false => Except.ok false) | false => Except.ok false : Res Bool) = _
  cases a == c <;> cases b == d <;> rfl
theorem eql_span (a b c d : Int) : toO (VM.binOp (Env.T vE) BinOp.eql 41 (.agg [.int .i64 a, .int .i64 b]) (.agg [.int .i64 c, .int .i64 d])) = some (.bool (a == c && b == d)) := by
  show toO (do pure (AV.bool (← eqT (Env.T vE) 20 41 (.agg [.int .i64 a, .int .i64 b]) (.agg [.int .i64 c, .int .i64 d]))) : Res AV) = _
  rw [eqt_span]; rfl
theorem works_ok : (orc vE).bare 19 [] = some (.bool true) := by
  have hN := isN_ex
  have hsm := ex_small
  have hc : cntT exT ≤ 800000 := by decide
  have cex : ∀ {β : Type} (st : St) (K : Kv β), callS (orc vE) 28 [] st K = K exV st q0 := fun st K => callS_bare st K rfl rfl rfl example_ok
  have hp1 : IsSl 1 (.sl 1 [.int .i64 1] .shut) (([1] : List Int).map (AV.int .i64)) := isP [1] (by simp)
  have hp2 : IsSl 1 (.sl 1 [.int .i64 2] .shut) (([2] : List Int).map (AV.int .i64)) := isP [2] (by simp)
  have hp3 : IsSl 1 (.sl 1 [.int .i64 3] .shut) (([3] : List Int).map (AV.int .i64)) := isP [3] (by simp)
  have c1 := fun {β : Type} (st : St) (K : Kv β) => callTx (F := 21) hN hp1 rfl (Full_ok hsm hc hN hp1) st K
  have c2 := fun {β : Type} (st : St) (K : Kv β) => callTx (F := 22) hN hp1 rfl (Own_ok hsm hc hN hp1) st K
  have c3 := fun {β : Type} (st : St) (K : Kv β) => callTx (F := 22) hN hp2 rfl (Own_ok hsm hc hN hp2) st K
  rw [show fullG [1] exT = (3, 5) by rfl, show (atR [1] exT).2.2 = true by rfl] at c1
  rw [show ownG [1] exT = (4, 5) by rfl, show (atR [1] exT).2.2 = true by rfl] at c2
  rw [show ownG [2] exT = (5, 5) by rfl, show (atR [2] exT).2.2 = true by rfl] at c3
  obtain ⟨x3, e3, i3⟩ := Find_ok hsm hc hN 3
  obtain ⟨x5, e5, i5⟩ := Find_ok hsm hc hN 5
  obtain ⟨x6, e6, i6⟩ := Find_ok hsm hc hN 6
  have d3 := fun {β : Type} (st : St) (K : Kv β) => callTi hN rfl e3 st K
  have d5 := fun {β : Type} (st : St) (K : Kv β) => callTi hN rfl e5 st K
  have d6 := fun {β : Type} (st : St) (K : Kv β) => callTi hN rfl e6 st K
  rw [show findV exT 3 = ([1], 0) by rfl] at d3 i3
  rw [show findV exT 5 = ([3], 0) by rfl] at d5 i5
  rw [show findV exT 6 = ([], 1) by rfl] at d6 i6
  have q1 := fun {β : Type} (st : St) (K : Kv β) => call_paths i3 hp1 st K
  have q2 := fun {β : Type} (st : St) (K : Kv β) => call_paths i5 hp3 st K
  have ct := fun {β : Type} (st : St) (K : Kv β) => callT hN rfl (hsm.text hN) st K
  rw [show textG exT = [108, 101, 116, 32, 120, 10] by rfl] at ct
  obtain ⟨z, ez, hz⟩ := gtoks_ok hsm.1 _ hN
  have ck := fun {β : Type} (st : St) (K : Kv β) => callT hN rfl ez st K
  have hzl : ∀ {γ : Type} (K : Nat → Option γ), lenS z K = K 4 := fun K => tlen hz K
  have cc := fun {β : Type} (st : St) (K : Kv β) => callT hN rfl (gcheck_ok hsm.1 (by rw [show textG exT = [108, 101, 116, 32, 120, 10] by rfl]; simp) hN) st K
  rw [ex_check] at cc
  have es' : ∀ a b : Int, toO (VM.binOp (Env.T vE) BinOp.eql 41 (AV.agg [AV.int .i64 a, AV.int .i64 b]) (AV.agg [AV.int .i64 a, AV.int .i64 b])) = some (.bool true) := fun a b => by
    rw [eql_span]; simp
  obtain ⟨s1, g1, k1, n1, f1, e1⟩ := lvN (St.mk 0 0 Tr.leaf) 4 0 [] (.sl 4 [.agg [.int .u8 1, .int .u8 3, .str [108, 101, 116], .nils], .agg [.int .u8 1, .int .u8 4, .str [120], .sl 4 [bkV 32] .shut], .agg [.int .u8 2, .int .u8 0, .str [61], .nils], .agg [.int .u8 1, .int .u8 0, .str [], .sl 4 [bkV 10] .shut]] .shut) (Nat.le_refl _)
  have r1 : s1.ro = 0 := k1.ro
  obtain ⟨s2, g2, k2, n2, f2, e2⟩ := local_var (O := orc vE) (st := s1) (t := 41) (z := 2) (old := [.int .i64 0, .int .i64 0]) (cs := [.int .i64 3, .int .i64 5]) (.agg [.int .i64 3, .int .i64 5]) rfl rfl (by rw [r1]; omega)
  have r2 : s2.ro = 0 := k2.ro.trans r1
  obtain ⟨s3, g3, k3, n3, f3, ee3⟩ := local_var (O := orc vE) (st := s2) (t := 41) (z := 2) (old := [.int .i64 0, .int .i64 0]) (cs := [.int .i64 4, .int .i64 5]) (.agg [.int .i64 4, .int .i64 5]) rfl rfl (by rw [r2]; omega)
  have r3 : s3.ro = 0 := k3.ro.trans r2
  obtain ⟨s4, g4, k4, n4, f4, ee4⟩ := local_var (O := orc vE) (st := s3) (t := 41) (z := 2) (old := [.int .i64 0, .int .i64 0]) (cs := [.int .i64 5, .int .i64 5]) (.agg [.int .i64 5, .int .i64 5]) rfl rfl (by rw [r3]; omega)
  have h12 := k2.old _ _ (fun f => f) g1
  have h13 := k3.old _ _ (fun f => f) h12
  have h14 := k4.old _ _ (fun f => f) h13
  have h23 := k3.old _ _ (fun f => f) g2
  have h24 := k4.old _ _ (fun f => f) h23
  have h34 := k4.old _ _ (fun f => f) g3
  have one4 : ∀ l : List AV, VM.one (.sl 4 l .shut) = true := fun _ => rfl
  refine bare_of rfl (g19_eq.trans ?_)
  simp only [exV] at cex c1 c2 c3 d3 d5 d6 ct ck cc
  simp only [g19, cex, unA_agg, unc_cons, asI_int, asS_str, asB_bool, un0_nil, letSt_eq, asOne_of (one4 _), e1, loadS_mp g1, List.drop_zero, takeO4, takeO2, bindO_ok, c1, errG, if_true, unT_tup, nthS_zero, nthS_one, e2, loadS_mp h12, c2, ee3, loadS_mp h13, c3, ee4, loadS_mp h14, d3, d5, d6, ct, ck, hzl, beq_self_eq_true, ifB_true]
  simp only [show (((4 : Nat) : Int) == 4) = true from rfl, ifB_true, loadS_mp h24, loadS_mp h34, loadS_mp g4, List.drop_zero, takeO2, bindO_ok, unA_agg, unc_cons, asI_int, asB_bool, un0_nil, es', q1, q2, show eqPs [1] [1] = true from rfl, show eqPs [3] [3] = true from rfl, loadS_mp h14, takeO4, asS_str, cc, beq_self_eq_true]
theorem plen {x : AV} {p : List Int} (hx : IsSl 1 x (p.map (AV.int .i64))) {γ : Type} (K : Nat → Option γ) : lenS x K = K p.length := by rw [hx.len, List.length_map]
theorem wt_small {t : T} (h : wt t < 300) : Small t ∧ cntT t ≤ 800000 := by
  have := wt_bound t h
  exact ⟨⟨by omega, by omega⟩, by omega⟩
theorem call_works {β : Type} (st : St) (K : Kv β) : callS (orc vE) 19 [] st K = K (.bool true) st q0 := callS_bare st K rfl rfl rfl works_ok
end Go.Proofs.YtflnfagdpoddiaaGreatDoor.Vm
set_option maxRecDepth 1000000
set_option maxHeartbeats 0
namespace Go.Proofs.YtflnfagdpoddiaaGreatDoor.Vm
open Go Go.VM Go.Proofs
noncomputable def g4_L1 (x1 : AV) (st34 : St) (st107 : St) : Car → Option (Car ⊕ Nat × Car) := fun c264 => unc (Prod.fst c264) fun v265 l266 => asB v265 fun b267 => unc l266 fun v268 l269 => asI .i64 v268 fun n270 => unc l269 fun v271 l272 => asI .i64 v271 fun n273 => un0 l272 (loadS 1 false (AV.mp (St.h st107) 3) (Prod.snd c264) fun v274 _x => lenS v274 fun k276 => ifB (decide (n273 < (↑k276 : Int))) (letSt (St.add (Prod.snd c264) Obj.egg) fun st277 => loadS 4 true (AV.mp (St.h st34) 0) st277 fun v278 l279 => unF v278 fun n284 n287 l290 v291 => (elemsS x1 fun l293 => fitTs false l293 fun l294 => chk (sizesOk 1 l294) (appS 1 8 3 (AV.sl 1 [] Perm.shut) l294 st277 fun v295 st296 x297 => chk (apart (Fx.mk l279 Did.kept) x297 && true) (chk (apart x297 (Fx.mk [] Did.kept) && true) (chk (apart x297 (Fx.mk [] Did.kept) && true) (appS 1 8 3 v295 [AV.int .i64 n273] st296 fun v298 st299 x300 => chk (apart (Fx.mk l279 Did.kept) x300 && true) (callS (orc vE) 21 [AV.agg [AV.int .u8 n284, AV.int .u8 n287, AV.str l290, v291], v298] st299 fun v301 st302 x303 => unT v301 fun l304 => nthS l304 0 fun v305 => unP v305 fun n310 n313 => (unT v301 fun l314 => nthS l314 1 fun v315 => asI .i64 v315 fun n316 => hatchS 41 [AV.int .i64 0, AV.int .i64 0] (St.h (Prod.snd c264)) st302 fun v317 st318 x319 => chk (apart (Fx.mk [] Did.kept) x319 && (apart (Fx.mk [] Did.kept) x319 && (apart (Fx.mk [] Did.kept) x319 && (apart x303 x319 && (apart x300 x319 && (apart (Fx.mk [] Did.kept) x319 && (apart (Fx.mk [] Did.kept) x319 && (apart x297 x319 && (apart (Fx.mk [] Did.kept) x319 && (apart (Fx.mk [] Did.kept) x319 && (apart (Fx.mk l279 Did.kept) x319 && true))))))))))) (storeS (orc vE) 2 v317 (AV.agg [AV.int .i64 n310, AV.int .i64 n313]) [AV.int .i64 n310, AV.int .i64 n313] st318 fun _x st321 x322 => chk (apart (Fx.mk [] Did.kept) x322 && true) (bindO (ifB (n316 != 0) (some ([AV.bool true], st321)) (fldA 0 v317 fun v323 => loadS 1 false v323 st321 fun v324 _x => asI .i64 v324 fun n326 => ifB (n326 != n270) (some ([AV.bool true], st321)) (fldA 1 v317 fun v327 => loadS 1 false v327 st321 fun v328 _x => asI .i64 v328 fun n330 => fldA 0 v317 fun v331 => loadS 1 false v331 st321 fun v332 _x => asI .i64 v332 fun n334 => some ([AV.bool (decide (n330 < n334))], st321)))) fun c335 => unc (Prod.fst c335) fun v336 l337 => asB v336 fun b338 => un0 l337 (ifB b338 (some (Sum.inr (1, [AV.bool false, AV.int .i64 n270], Prod.snd c335))) (fldA 1 v317 fun v339 => loadS 1 false v339 (Prod.snd c335) fun v340 _x => asI .i64 v340 fun n342 => letV (IntKind.wrap .i64 (n273 + 1)) fun n343 => some (Sum.inl ([AV.bool b267, AV.int .i64 n342, AV.int .i64 n343], Prod.snd c335)))))))))))))) (some (Sum.inr (0, [AV.bool b267, AV.int .i64 n270], Prod.snd c264))))
noncomputable def g4 : AV → AV → Option AV := fun x0 x1 => unF x0 fun n4 n7 l10 v11 => (asOne v11 (fit1 v11 fun v13 => bindO (callS (orc vE) 19 [] (St.mk 0 0 Tr.leaf) fun v14 st15 _x => asB v14 fun b17 => ifB (!b17) (some ([AV.bool true], st15)) (callS (orc vE) 8 [AV.agg [AV.int .u8 n4, AV.int .u8 n7, AV.str l10, v13]] st15 fun v19 st20 _x => asI .i64 v19 fun n22 => ifB (decide (n22 ≥ 300)) (some ([AV.bool true], st20)) (lenS x1 fun k23 => some ([AV.bool (decide ((↑k23 : Int) > 300))], st20)))) fun c24 => unc (Prod.fst c24) fun v25 l26 => asB v25 fun b27 => un0 l26 (ifB b27 (callS (orc vE) 19 [] (Prod.snd c24) fun v28 _x _x_1 => asB v28 fun b31 => some (AV.bool b31)) (callS (orc vE) 9 [AV.agg [AV.int .u8 n4, AV.int .u8 n7, AV.str l10, v13]] (Prod.snd c24) fun v33 st34 _x => unF v33 fun n40 n43 l46 v47 => (letSt (St.add st34 (VM.Obj.cells 26 [AV.int .u8 0, AV.int .u8 0, AV.str [], AV.nils])) fun st49 => asOne v47 (storeS (orc vE) 4 (AV.mp (St.h st34) 0) (AV.agg [AV.int .u8 n40, AV.int .u8 n43, AV.str l46, v47]) [AV.int .u8 n40, AV.int .u8 n43, AV.str l46, v47] st49 fun _x st51 _x_1 => loadS 4 true (AV.mp (St.h st34) 0) st51 fun v53 _x => unF v53 fun n59 n62 l65 v66 => (callS (orc vE) 15 [AV.agg [AV.int .u8 n59, AV.int .u8 n62, AV.str l65, v66]] st51 fun v68 st69 _x => asI .i64 v68 fun n71 => ifB (n71 != 0) (some (AV.bool true)) (loadS 4 true (AV.mp (St.h st34) 0) st69 fun v72 _x => unF v72 fun n78 n81 l84 v85 => (callS (orc vE) 10 [AV.agg [AV.int .u8 n78, AV.int .u8 n81, AV.str l84, v85]] st69 fun v87 st88 _x => asS v87 fun l90 => loadS 4 true (AV.mp (St.h st34) 0) st88 fun v91 _x => unF v91 fun n97 n100 l103 v104 => (callS (orc vE) 20 [AV.agg [AV.int .u8 n97, AV.int .u8 n100, AV.str l103, v104], x1] st88 fun v106 st107 _x => unT v106 fun l109 => nthS l109 0 fun v110 => unF v110 fun n115 n118 l121 v122 => (unT v106 fun l124 => nthS l124 1 fun v125 => asI .i64 v125 fun n126 => letSt (St.add st107 (VM.Obj.cells 26 [AV.int .u8 0, AV.int .u8 0, AV.str [], AV.nils])) fun st127 => asOne v122 (storeS (orc vE) 4 (AV.mp (St.h st107) 0) (AV.agg [AV.int .u8 n115, AV.int .u8 n118, AV.str l121, v122]) [AV.int .u8 n115, AV.int .u8 n118, AV.str l121, v122] st127 fun _x st129 _x_2 => loadS 4 true (AV.mp (St.h st34) 0) st129 fun v131 _x => unF v131 fun n137 n140 l143 v144 => (callS (orc vE) 21 [AV.agg [AV.int .u8 n137, AV.int .u8 n140, AV.str l143, v144], x1] st129 fun v146 st147 _x => unT v146 fun l149 => nthS l149 0 fun v150 => unP v150 fun n155 n158 => (unT v146 fun l159 => nthS l159 1 fun v160 => asI .i64 v160 fun n161 => letSt (St.add st147 (VM.Obj.cells 41 [AV.int .i64 0, AV.int .i64 0])) fun st162 => storeS (orc vE) 2 (AV.mp (St.h st147) 0) (AV.agg [AV.int .i64 n155, AV.int .i64 n158]) [AV.int .i64 n155, AV.int .i64 n158] st162 fun _x st164 _x_3 => loadS 4 true (AV.mp (St.h st34) 0) st164 fun v166 _x => unF v166 fun n172 n175 l178 v179 => (callS (orc vE) 22 [AV.agg [AV.int .u8 n172, AV.int .u8 n175, AV.str l178, v179], x1] st164 fun v181 st182 _x => unT v181 fun l184 => nthS l184 0 fun v185 => unP v185 fun n190 n193 => (unT v181 fun l194 => nthS l194 1 fun v195 => asI .i64 v195 fun n196 => letSt (St.add st182 (VM.Obj.cells 41 [AV.int .i64 0, AV.int .i64 0])) fun st197 => storeS (orc vE) 2 (AV.mp (St.h st182) 0) (AV.agg [AV.int .i64 n190, AV.int .i64 n193]) [AV.int .i64 n190, AV.int .i64 n193] st197 fun _x st199 _x_4 => ifB (n126 != 0) (bindO (ifB (n161 == n126) (some ([AV.bool (n196 == n126)], st199)) (some ([AV.bool false], st199))) fun c201 => unc (Prod.fst c201) fun v202 l203 => asB v202 fun b204 => un0 l203 (some (AV.bool b204))) (bindO (ifB (n161 != 0) (some ([AV.bool true], st199)) (ifB (n196 != 0) (some ([AV.bool true], st199)) (loadS 1 false (AV.mp (St.h st147) 0) st199 fun v205 _x => asI .i64 v205 fun n207 => ifB (decide (n207 < 0)) (some ([AV.bool true], st199)) (loadS 1 false (AV.mp (St.h st147) 1) st199 fun v208 _x => asI .i64 v208 fun n210 => ifB (decide (n210 > (↑(List.length l90) : Int))) (some ([AV.bool true], st199)) (loadS 1 false (AV.mp (St.h st182) 0) st199 fun v211 _x => asI .i64 v211 fun n213 => loadS 1 false (AV.mp (St.h st147) 0) st199 fun v214 _x => asI .i64 v214 fun n216 => ifB (decide (n213 < n216)) (some ([AV.bool true], st199)) (loadS 1 false (AV.mp (St.h st182) 1) st199 fun v217 _x => asI .i64 v217 fun n219 => loadS 1 false (AV.mp (St.h st182) 0) st199 fun v220 _x => asI .i64 v220 fun n222 => ifB (decide (n219 < n222)) (some ([AV.bool true], st199)) (loadS 1 false (AV.mp (St.h st182) 1) st199 fun v223 _x => asI .i64 v223 fun n225 => loadS 1 false (AV.mp (St.h st147) 1) st199 fun v226 _x => asI .i64 v226 fun n228 => ifB (decide (n225 > n228)) (some ([AV.bool true], st199)) (loadS 1 false (AV.mp (St.h st147) 0) st199 fun v229 l230 => asI .i64 v229 fun n231 => loadS 1 false (AV.mp (St.h st147) 1) st199 fun v232 l233 => asI .i64 v232 fun n234 => uptoS n234 (List.length l90) fun k235 => uptoS n231 k235 fun k236 => letV (List.drop k236 (List.take k235 l90)) fun l237 => loadS 4 true (AV.mp (St.h st107) 0) st199 fun v238 _x => unF v238 fun n244 n247 l250 v251 => (callS (orc vE) 10 [AV.agg [AV.int .u8 n244, AV.int .u8 n247, AV.str l250, v251]] st199 fun v253 st254 x255 => asS v253 fun l256 => chk (apart (Fx.mk [] Did.kept) x255 && (apart (Fx.mk l233 Did.kept) x255 && (apart (Fx.mk [] Did.kept) x255 && (apart (Fx.mk l230 Did.kept) x255 && (apart (Fx.mk [] Did.kept) x255 && (apart (Fx.mk [] Did.kept) x255 && true)))))) (some ([AV.bool !l237 == l256], st254))))))))))) fun c257 => unc (Prod.fst c257) fun v258 l259 => asB v258 fun b260 => un0 l259 (ifB b260 (some (AV.bool false)) (loadS 1 false (AV.mp (St.h st147) 0) (Prod.snd c257) fun v261 _x => asI .i64 v261 fun n263 => bindO (loopO (g4_L1 x1 st34 st107) ([AV.bool false, AV.int .i64 n263, AV.int .i64 0], Prod.snd c257)) fun c344 => unc (Prod.fst (Prod.snd c344)) fun v345 l346 => asB v345 fun b347 => unc l346 fun v348 l349 => asI .i64 v348 fun n350 => un0 l349 (sel2 (Prod.fst c344) (bindO (loadS 1 false (AV.mp (St.h st107) 0) (Prod.snd (Prod.snd c344)) fun v351 _x => asI .u8 v351 fun n353 => ifB (n353 == 2) (loadS 1 false (AV.mp (St.h st147) 1) (Prod.snd (Prod.snd c344)) fun v354 _x => asI .i64 v354 fun n356 => ifB (n350 == n356) (some ([AV.bool true], Prod.snd (Prod.snd c344))) (loadS 1 false (AV.mp (St.h st107) 0) (Prod.snd (Prod.snd c344)) fun v357 _x => asI .u8 v357 fun n359 => ifB (n359 != 2) (loadS 1 false (AV.mp (St.h st107) 2) (Prod.snd (Prod.snd c344)) fun v360 _x => asS v360 fun l362 => letV (IntKind.wrap .i64 (n350 + (↑(List.length l362) : Int))) fun n363 => loadS 1 false (AV.mp (St.h st147) 1) (Prod.snd (Prod.snd c344)) fun v364 _x => asI .i64 v364 fun n366 => some ([AV.bool (n363 == n366)], Prod.snd (Prod.snd c344))) (some ([AV.bool false], Prod.snd (Prod.snd c344))))) (loadS 1 false (AV.mp (St.h st107) 0) (Prod.snd (Prod.snd c344)) fun v367 _x => asI .u8 v367 fun n369 => ifB (n369 != 2) (loadS 1 false (AV.mp (St.h st107) 2) (Prod.snd (Prod.snd c344)) fun v370 _x => asS v370 fun l372 => letV (IntKind.wrap .i64 (n350 + (↑(List.length l372) : Int))) fun n373 => loadS 1 false (AV.mp (St.h st147) 1) (Prod.snd (Prod.snd c344)) fun v374 _x => asI .i64 v374 fun n376 => some ([AV.bool (n373 == n376)], Prod.snd (Prod.snd c344))) (some ([AV.bool false], Prod.snd (Prod.snd c344))))) fun c377 => unc (Prod.fst c377) fun v378 l379 => asB v378 fun b380 => un0 l379 (some (AV.bool b380))) fun _x => some (AV.bool b347)))))))))))))))))))))
theorem g4_eq (x0 x1 : AV) : bareS vE 4 [x0, x1] = g4 x0 x1 := by kernel_rfl
end Go.Proofs.YtflnfagdpoddiaaGreatDoor.Vm
