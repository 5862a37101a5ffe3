/-
  LayoutOne: a Group whose flat text has no more characters than the width is written so, for every input. (A part of the proof: L11, L12, L13, L14, F6, L15.)
-/
import Derived.Test.YteajphhelkdjnaaDoorVmCA
import Derived.Test.YteajphhelkdjnaaDoorVmAI
/- UTF-8 by the reference: Size, Valid. -/
set_option maxRecDepth 100000
set_option linter.unusedSimpArgs false
namespace Go.Proofs.YteajphhelkdjnaaDoor.Vm
open Go Go.VM Go.Proofs

/-- Are so many bytes from a place on in the midst of a character? -/
def contF (s : List UInt8) : Nat → Nat → Bool
  | 0, _ => true
  | m + 1, j => decide (128 ≤ (s.getD j 0).toNat) && decide ((s.getD j 0).toNat ≤ 191) && contF s m (j + 1)
theorem idx_getD {β : Type} {s : List UInt8} {j : Nat} (h : j < s.length) (K : UInt8 → Option β) : idxStr s (j : Int) K = K (s.getD j 0) := by
  rw [idxStr_nat h]; simp [h]
theorem cont_loop {s : List UInt8} (p n : Nat) (hn : n ≤ 4) (hs : s.length ≤ 9223372036854775807) (hp : p + n ≤ s.length) : ∀ (m j : Nat) (st : St), j + m = n →
    loopO (g43_L1 s (p : Int) (n : Int)) ([.int .i64 0, .int .i64 (j : Int)], st) = some (if contF s m (p + j) then (0, [.int .i64 0], st) else (1, [.int .i64 0], st))
  | 0, j, st, h => by
    have hj : ¬ ((j : Int) < (n : Int)) := by omega
    rw [loopO_inr]
    simp only [g43_L1, unc_cons, asI_int, un0_nil, ifB_decide, if_neg hj, contF, if_true]
  | m + 1, j, st, h => by
    have hj : (j : Int) < (n : Int) := by omega
    have hw : IntKind.wrap .i64 ((p : Int) + (j : Int)) = ((p + j : Nat) : Int) := wrap_i64 (by omega) (by omega)
    have hw1 : IntKind.wrap .i64 ((j : Int) + 1) = ((j + 1 : Nat) : Int) := wrap_i64 (by omega) (by omega)
    have hi := fun {β : Type} (K : UInt8 → Option β) => idx_getD (s := s) (j := p + j) (by omega) K
    have ih := cont_loop p n hn hs hp m (j + 1) st (by omega)
    by_cases h1 : (s.getD (p + j) 0).toNat < 128
    · have h1' : ((s.getD (p + j) 0).toNat : Int) < 128 := by omega
      rw [loopO_inr (r := (1, [.int .i64 0], st))]
      · simp only [contF, decide_eq_false (show ¬ 128 ≤ (s.getD (p + j) 0).toNat from by omega), Bool.false_and]; rfl
      · simp only [g43_L1, unc_cons, asI_int, un0_nil, ifB_decide, if_pos hj, letV_eq, hw, hi, if_pos h1', bindO_ok, asB_bool, ifB_true]
    · have h1' : ¬ ((s.getD (p + j) 0).toNat : Int) < 128 := by omega
      by_cases h2 : 191 < (s.getD (p + j) 0).toNat
      · have h2' : ((s.getD (p + j) 0).toNat : Int) > 191 := by omega
        rw [loopO_inr (r := (1, [.int .i64 0], st))]
        · simp only [contF, decide_eq_false (show ¬ (s.getD (p + j) 0).toNat ≤ 191 from by omega), Bool.false_and, Bool.and_false]; rfl
        · simp only [g43_L1, unc_cons, asI_int, un0_nil, ifB_decide, if_pos hj, letV_eq, hw, hi, if_neg h1', bindO_ok, asB_bool, if_pos h2']
      · have h2' : ¬ ((s.getD (p + j) 0).toNat : Int) > 191 := by omega
        rw [loopO_inl (s' := ([.int .i64 0, .int .i64 ((j + 1 : Nat) : Int)], st))]
        · rw [ih]
          simp only [contF, decide_eq_true (show 128 ≤ (s.getD (p + j) 0).toNat from by omega), decide_eq_true (show (s.getD (p + j) 0).toNat ≤ 191 from by omega), Bool.true_and]
          rfl
        · simp only [g43_L1, unc_cons, asI_int, un0_nil, ifB_decide, if_pos hj, letV_eq, hw, hi, if_neg h1', bindO_ok, asB_bool, if_neg h2', hw1]
theorem szL_at (s : List UInt8) (p : Nat) : szL (s.drop p) = szN (s.length - p) (s.getD p 0).toNat (s.getD (p + 1) 0).toNat (s.getD (p + 2) 0).toNat (s.getD (p + 3) 0).toNat := by
  unfold szL
  rw [List.length_drop]
  simp only [List.getD, List.getElem?_drop, Nat.add_zero]
theorem size_ref {s : List UInt8} {p : Nat} (hs : s.length ≤ 1000000000000) (hp : p < s.length) : (orc vE).bare 43 [.str s, .int .i64 (p : Int)] = some (.int .i64 (szL (s.drop p) : Int)) := by
  refine bare_of rfl ((g43_eq _ _).trans ?_)
  rw [szL_at]
  have hi := fun {β : Type} (K : UInt8 → Option β) => idx_getD (s := s) hp K
  have hlt := UInt8.toNat_lt (s.getD p 0)
  generalize hb0 : s.getD p 0 = b0 at hi hlt ⊢
  by_cases c0 : b0.toNat < 128
  · have c0' : (b0.toNat : Int) < 128 := by omega
    simp only [g43, asS_str, asI_int, hi, ifB_decide, if_pos c0', szN, if_pos c0]; rfl
  have c0' : ¬ (b0.toNat : Int) < 128 := by omega
  by_cases n1 : b0.toNat < 194
  · have hz : szN (s.length - p) b0.toNat (s.getD (p + 1) 0).toNat (s.getD (p + 2) 0).toNat (s.getD (p + 3) 0).toNat = 0 := by
      unfold szN
      rw [if_neg c0, if_neg (by omega), if_neg (by omega), if_neg (by omega)]
    rw [hz]
    simp only [g43, asS_str, asI_int, hi, ifB_decide, if_neg c0', bindO_ok, unc_cons, asB_bool, un0_nil, ifB_beq, letV_eq, ifB_true, ifB_false, sel2_zero, sel2_succ, sel2_one, if_neg (show ¬ ((b0.toNat : Int) ≥ 194) from by omega), if_neg (show ¬ ((b0.toNat : Int) ≥ 224) from by omega), if_neg (show ¬ ((b0.toNat : Int) ≥ 240) from by omega), if_true]; rfl
  by_cases n2 : b0.toNat > 244
  · have hz : szN (s.length - p) b0.toNat (s.getD (p + 1) 0).toNat (s.getD (p + 2) 0).toNat (s.getD (p + 3) 0).toNat = 0 := by
      unfold szN
      rw [if_neg c0, if_neg (by omega), if_neg (by omega), if_neg (by omega)]
    rw [hz]
    simp only [g43, asS_str, asI_int, hi, ifB_decide, if_neg c0', bindO_ok, unc_cons, asB_bool, un0_nil, ifB_beq, letV_eq, ifB_true, ifB_false, sel2_zero, sel2_succ, sel2_one, if_pos (show (b0.toNat : Int) ≥ 194 from by omega), if_neg (show ¬ ((b0.toNat : Int) ≤ 223) from by omega), if_pos (show (b0.toNat : Int) ≥ 224 from by omega), if_neg (show ¬ ((b0.toNat : Int) ≤ 239) from by omega), if_pos (show (b0.toNat : Int) ≥ 240 from by omega), if_neg (show ¬ ((b0.toNat : Int) ≤ 244) from by omega), if_true]; rfl
  by_cases c2 : 194 ≤ b0.toNat ∧ b0.toNat ≤ 223
  · have hn0 : ¬ (2 : Int) = 0 := by omega
    have hw : IntKind.wrap .i64 ((p : Int) + 2) = ((p + 2 : Nat) : Int) := wrap_i64 (by omega) (by omega)
    have hw1 : IntKind.wrap .i64 ((p : Int) + 1) = ((p + 1 : Nat) : Int) := wrap_i64 (by omega) (by omega)
    by_cases hl : s.length < p + 2
    · have hz : szN (s.length - p) b0.toNat (s.getD (p + 1) 0).toNat (s.getD (p + 2) 0).toNat (s.getD (p + 3) 0).toNat = 0 := by
        unfold szN; rw [if_neg c0, if_pos c2]
        exact if_pos (.inl (by omega))
      rw [hz]
      have hgt : ((p + 2 : Nat) : Int) > (s.length : Int) := by omega
      simp only [g43, asS_str, asI_int, hi, ifB_decide, if_neg c0', bindO_ok, unc_cons, asB_bool, un0_nil, ifB_beq, letV_eq, ifB_true, ifB_false, sel2_zero, sel2_succ, sel2_one, if_pos (show (b0.toNat : Int) ≥ 194 from by omega), if_pos (show (b0.toNat : Int) ≤ 223 from by omega), if_neg hn0, hw, if_pos hgt]; rfl
    have hgt : ¬ ((p + 2 : Nat) : Int) > (s.length : Int) := by omega
    have hloop := cont_loop (s := s) p 2 (by omega) (by omega) (by omega) 1 1 (St.mk 0 0 Tr.leaf) rfl
    have hloop : loopO (g43_L1 s (p : Int) 2) ([.int .i64 0, .int .i64 1], St.mk 0 0 Tr.leaf) = _ := hloop
    have hi1 := fun {β : Type} (K : UInt8 → Option β) => idx_getD (s := s) (j := p + 1) (by omega) K
    have hz : szN (s.length - p) b0.toNat (s.getD (p + 1) 0).toNat (s.getD (p + 2) 0).toNat (s.getD (p + 3) 0).toNat = if (s.length - p < 2 ∨ (s.getD (p + 1) 0).toNat < 128 ∨ 191 < (s.getD (p + 1) 0).toNat) then 0 else 2 := by
      unfold szN; rw [if_neg c0, if_pos c2]
    have hcont : contF s 1 (p + 1) = true ↔ (128 ≤ (s.getD (p + 1) 0).toNat ∧ (s.getD (p + 1) 0).toNat ≤ 191) := by
      simp only [contF, Bool.and_true, Bool.and_eq_true, decide_eq_true_eq, Nat.add_assoc, Nat.reduceAdd, and_assoc]
    cases hcf : contF s 1 (p + 1) with
    | false =>
      rw [hcf] at hloop hcont
      have hcont : ¬ ((128 ≤ (s.getD (p + 1) 0).toNat ∧ (s.getD (p + 1) 0).toNat ≤ 191)) := fun h => by cases hcont.2 h
      rw [hz, if_pos (by omega)]
      simp only [g43, asS_str, asI_int, hi, ifB_decide, if_neg c0', bindO_ok, unc_cons, asB_bool, un0_nil, ifB_beq, letV_eq, ifB_true, ifB_false, sel2_zero, sel2_succ, sel2_one, if_pos (show (b0.toNat : Int) ≥ 194 from by omega), if_pos (show (b0.toNat : Int) ≤ 223 from by omega), if_neg hn0, hw, if_neg hgt, hloop, Bool.false_eq_true, if_false]; rfl
    | true =>
      rw [hcf] at hloop hcont
      have hcont := hcont.1 rfl
      rw [hz]
      rw [if_neg (by omega)]
      simp only [g43, asS_str, asI_int, hi, ifB_decide, if_neg c0', bindO_ok, unc_cons, asB_bool, un0_nil, ifB_beq, letV_eq, ifB_true, ifB_false, sel2_zero, sel2_succ, sel2_one, if_pos (show (b0.toNat : Int) ≥ 194 from by omega), if_pos (show (b0.toNat : Int) ≤ 223 from by omega), if_neg hn0, hw, if_neg hgt, hloop, if_true, hw1, hi1, if_neg (show ¬ (b0.toNat : Int) = 224 from by omega), if_neg (show ¬ (b0.toNat : Int) = 237 from by omega), if_neg (show ¬ (b0.toNat : Int) = 240 from by omega), if_neg (show ¬ (b0.toNat : Int) = 244 from by omega)]; rfl
  by_cases c3 : 224 ≤ b0.toNat ∧ b0.toNat ≤ 239
  · have hn0 : ¬ (3 : Int) = 0 := by omega
    have hw : IntKind.wrap .i64 ((p : Int) + 3) = ((p + 3 : Nat) : Int) := wrap_i64 (by omega) (by omega)
    have hw1 : IntKind.wrap .i64 ((p : Int) + 1) = ((p + 1 : Nat) : Int) := wrap_i64 (by omega) (by omega)
    by_cases hl : s.length < p + 3
    · have hz : szN (s.length - p) b0.toNat (s.getD (p + 1) 0).toNat (s.getD (p + 2) 0).toNat (s.getD (p + 3) 0).toNat = 0 := by
        unfold szN; rw [if_neg c0, if_neg c2, if_pos c3]
        exact if_pos (.inl (by omega))
      rw [hz]
      have hgt : ((p + 3 : Nat) : Int) > (s.length : Int) := by omega
      simp only [g43, asS_str, asI_int, hi, ifB_decide, if_neg c0', bindO_ok, unc_cons, asB_bool, un0_nil, ifB_beq, letV_eq, ifB_true, ifB_false, sel2_zero, sel2_succ, sel2_one, if_pos (show (b0.toNat : Int) ≥ 194 from by omega), if_neg (show ¬ ((b0.toNat : Int) ≤ 223) from by omega), if_pos (show (b0.toNat : Int) ≥ 224 from by omega), if_pos (show (b0.toNat : Int) ≤ 239 from by omega), if_neg hn0, hw, if_pos hgt]; rfl
    have hgt : ¬ ((p + 3 : Nat) : Int) > (s.length : Int) := by omega
    have hloop := cont_loop (s := s) p 3 (by omega) (by omega) (by omega) 2 1 (St.mk 0 0 Tr.leaf) rfl
    have hloop : loopO (g43_L1 s (p : Int) 3) ([.int .i64 0, .int .i64 1], St.mk 0 0 Tr.leaf) = _ := hloop
    have hi1 := fun {β : Type} (K : UInt8 → Option β) => idx_getD (s := s) (j := p + 1) (by omega) K
    have hz : szN (s.length - p) b0.toNat (s.getD (p + 1) 0).toNat (s.getD (p + 2) 0).toNat (s.getD (p + 3) 0).toNat = if (s.length - p < 3 ∨ (s.getD (p + 1) 0).toNat < 128 ∨ 191 < (s.getD (p + 1) 0).toNat ∨ (s.getD (p + 2) 0).toNat < 128 ∨ 191 < (s.getD (p + 2) 0).toNat ∨ (b0.toNat = 224 ∧ (s.getD (p + 1) 0).toNat < 160) ∨ (b0.toNat = 237 ∧ 159 < (s.getD (p + 1) 0).toNat)) then 0 else 3 := by
      unfold szN; rw [if_neg c0, if_neg c2, if_pos c3]
    have hcont : contF s 2 (p + 1) = true ↔ (128 ≤ (s.getD (p + 1) 0).toNat ∧ (s.getD (p + 1) 0).toNat ≤ 191) ∧ (128 ≤ (s.getD (p + 2) 0).toNat ∧ (s.getD (p + 2) 0).toNat ≤ 191) := by
      simp only [contF, Bool.and_true, Bool.and_eq_true, decide_eq_true_eq, Nat.add_assoc, Nat.reduceAdd, and_assoc]
    cases hcf : contF s 2 (p + 1) with
    | false =>
      rw [hcf] at hloop hcont
      have hcont : ¬ ((128 ≤ (s.getD (p + 1) 0).toNat ∧ (s.getD (p + 1) 0).toNat ≤ 191) ∧ (128 ≤ (s.getD (p + 2) 0).toNat ∧ (s.getD (p + 2) 0).toNat ≤ 191)) := fun h => by cases hcont.2 h
      rw [hz, if_pos (by omega)]
      simp only [g43, asS_str, asI_int, hi, ifB_decide, if_neg c0', bindO_ok, unc_cons, asB_bool, un0_nil, ifB_beq, letV_eq, ifB_true, ifB_false, sel2_zero, sel2_succ, sel2_one, if_pos (show (b0.toNat : Int) ≥ 194 from by omega), if_neg (show ¬ ((b0.toNat : Int) ≤ 223) from by omega), if_pos (show (b0.toNat : Int) ≥ 224 from by omega), if_pos (show (b0.toNat : Int) ≤ 239 from by omega), if_neg hn0, hw, if_neg hgt, hloop, Bool.false_eq_true, if_false]; rfl
    | true =>
      rw [hcf] at hloop hcont
      have hcont := hcont.1 rfl
      rw [hz]
      by_cases v224 : b0.toNat = 224
      · have e224 : (b0.toNat : Int) = 224 := by omega
        have ne : ¬ (224 : Int) = 237 ∧ ¬ (224 : Int) = 240 ∧ ¬ (224 : Int) = 244 := by omega
        by_cases d : (s.getD (p + 1) 0).toNat < 160
        · have d' : ((s.getD (p + 1) 0).toNat : Int) < 160 := by omega
          rw [if_pos (by omega)]
          simp only [g43, asS_str, asI_int, hi, ifB_decide, if_neg c0', bindO_ok, unc_cons, asB_bool, un0_nil, ifB_beq, letV_eq, ifB_true, ifB_false, sel2_zero, sel2_succ, sel2_one, if_pos (show (b0.toNat : Int) ≥ 194 from by omega), if_neg (show ¬ ((b0.toNat : Int) ≤ 223) from by omega), if_pos (show (b0.toNat : Int) ≥ 224 from by omega), if_pos (show (b0.toNat : Int) ≤ 239 from by omega), if_neg hn0, hw, if_neg hgt, hloop, if_true, hw1, hi1, if_pos e224, if_neg (show ¬ (b0.toNat : Int) = 237 from by omega), if_neg (show ¬ (b0.toNat : Int) = 240 from by omega), if_neg (show ¬ (b0.toNat : Int) = 244 from by omega), if_pos d', decide_eq_true d']; rfl
        · have d' : ¬ ((s.getD (p + 1) 0).toNat : Int) < 160 := by omega
          rw [if_neg (by omega)]
          simp only [g43, asS_str, asI_int, hi, ifB_decide, if_neg c0', bindO_ok, unc_cons, asB_bool, un0_nil, ifB_beq, letV_eq, ifB_true, ifB_false, sel2_zero, sel2_succ, sel2_one, if_pos (show (b0.toNat : Int) ≥ 194 from by omega), if_neg (show ¬ ((b0.toNat : Int) ≤ 223) from by omega), if_pos (show (b0.toNat : Int) ≥ 224 from by omega), if_pos (show (b0.toNat : Int) ≤ 239 from by omega), if_neg hn0, hw, if_neg hgt, hloop, if_true, hw1, hi1, if_pos e224, if_neg (show ¬ (b0.toNat : Int) = 237 from by omega), if_neg (show ¬ (b0.toNat : Int) = 240 from by omega), if_neg (show ¬ (b0.toNat : Int) = 244 from by omega), if_neg d', decide_eq_false d']; rfl
      by_cases v237 : b0.toNat = 237
      · have e237 : (b0.toNat : Int) = 237 := by omega
        have ne : ¬ (237 : Int) = 224 ∧ ¬ (237 : Int) = 240 ∧ ¬ (237 : Int) = 244 := by omega
        by_cases d : (s.getD (p + 1) 0).toNat > 159
        · have d' : ((s.getD (p + 1) 0).toNat : Int) > 159 := by omega
          rw [if_pos (by omega)]
          simp only [g43, asS_str, asI_int, hi, ifB_decide, if_neg c0', bindO_ok, unc_cons, asB_bool, un0_nil, ifB_beq, letV_eq, ifB_true, ifB_false, sel2_zero, sel2_succ, sel2_one, if_pos (show (b0.toNat : Int) ≥ 194 from by omega), if_neg (show ¬ ((b0.toNat : Int) ≤ 223) from by omega), if_pos (show (b0.toNat : Int) ≥ 224 from by omega), if_pos (show (b0.toNat : Int) ≤ 239 from by omega), if_neg hn0, hw, if_neg hgt, hloop, if_true, hw1, hi1, if_pos e237, if_neg (show ¬ (b0.toNat : Int) = 224 from by omega), if_neg (show ¬ (b0.toNat : Int) = 240 from by omega), if_neg (show ¬ (b0.toNat : Int) = 244 from by omega), if_pos d', decide_eq_true d']; rfl
        · have d' : ¬ ((s.getD (p + 1) 0).toNat : Int) > 159 := by omega
          rw [if_neg (by omega)]
          simp only [g43, asS_str, asI_int, hi, ifB_decide, if_neg c0', bindO_ok, unc_cons, asB_bool, un0_nil, ifB_beq, letV_eq, ifB_true, ifB_false, sel2_zero, sel2_succ, sel2_one, if_pos (show (b0.toNat : Int) ≥ 194 from by omega), if_neg (show ¬ ((b0.toNat : Int) ≤ 223) from by omega), if_pos (show (b0.toNat : Int) ≥ 224 from by omega), if_pos (show (b0.toNat : Int) ≤ 239 from by omega), if_neg hn0, hw, if_neg hgt, hloop, if_true, hw1, hi1, if_pos e237, if_neg (show ¬ (b0.toNat : Int) = 224 from by omega), if_neg (show ¬ (b0.toNat : Int) = 240 from by omega), if_neg (show ¬ (b0.toNat : Int) = 244 from by omega), if_neg d', decide_eq_false d']; rfl
      rw [if_neg (by omega)]
      simp only [g43, asS_str, asI_int, hi, ifB_decide, if_neg c0', bindO_ok, unc_cons, asB_bool, un0_nil, ifB_beq, letV_eq, ifB_true, ifB_false, sel2_zero, sel2_succ, sel2_one, if_pos (show (b0.toNat : Int) ≥ 194 from by omega), if_neg (show ¬ ((b0.toNat : Int) ≤ 223) from by omega), if_pos (show (b0.toNat : Int) ≥ 224 from by omega), if_pos (show (b0.toNat : Int) ≤ 239 from by omega), if_neg hn0, hw, if_neg hgt, hloop, if_true, hw1, hi1, if_neg (show ¬ (b0.toNat : Int) = 224 from by omega), if_neg (show ¬ (b0.toNat : Int) = 237 from by omega), if_neg (show ¬ (b0.toNat : Int) = 240 from by omega), if_neg (show ¬ (b0.toNat : Int) = 244 from by omega)]; rfl
  have c4 : 240 ≤ b0.toNat ∧ b0.toNat ≤ 244 := by omega
  · have hn0 : ¬ (4 : Int) = 0 := by omega
    have hw : IntKind.wrap .i64 ((p : Int) + 4) = ((p + 4 : Nat) : Int) := wrap_i64 (by omega) (by omega)
    have hw1 : IntKind.wrap .i64 ((p : Int) + 1) = ((p + 1 : Nat) : Int) := wrap_i64 (by omega) (by omega)
    by_cases hl : s.length < p + 4
    · have hz : szN (s.length - p) b0.toNat (s.getD (p + 1) 0).toNat (s.getD (p + 2) 0).toNat (s.getD (p + 3) 0).toNat = 0 := by
        unfold szN; rw [if_neg c0, if_neg c2, if_neg c3, if_pos c4]
        exact if_pos (.inl (by omega))
      rw [hz]
      have hgt : ((p + 4 : Nat) : Int) > (s.length : Int) := by omega
      simp only [g43, asS_str, asI_int, hi, ifB_decide, if_neg c0', bindO_ok, unc_cons, asB_bool, un0_nil, ifB_beq, letV_eq, ifB_true, ifB_false, sel2_zero, sel2_succ, sel2_one, if_pos (show (b0.toNat : Int) ≥ 194 from by omega), if_neg (show ¬ ((b0.toNat : Int) ≤ 223) from by omega), if_pos (show (b0.toNat : Int) ≥ 224 from by omega), if_neg (show ¬ ((b0.toNat : Int) ≤ 239) from by omega), if_pos (show (b0.toNat : Int) ≥ 240 from by omega), if_pos (show (b0.toNat : Int) ≤ 244 from by omega), if_neg hn0, hw, if_pos hgt]; rfl
    have hgt : ¬ ((p + 4 : Nat) : Int) > (s.length : Int) := by omega
    have hloop := cont_loop (s := s) p 4 (by omega) (by omega) (by omega) 3 1 (St.mk 0 0 Tr.leaf) rfl
    have hloop : loopO (g43_L1 s (p : Int) 4) ([.int .i64 0, .int .i64 1], St.mk 0 0 Tr.leaf) = _ := hloop
    have hi1 := fun {β : Type} (K : UInt8 → Option β) => idx_getD (s := s) (j := p + 1) (by omega) K
    have hz : szN (s.length - p) b0.toNat (s.getD (p + 1) 0).toNat (s.getD (p + 2) 0).toNat (s.getD (p + 3) 0).toNat = if (s.length - p < 4 ∨ (s.getD (p + 1) 0).toNat < 128 ∨ 191 < (s.getD (p + 1) 0).toNat ∨ (s.getD (p + 2) 0).toNat < 128 ∨ 191 < (s.getD (p + 2) 0).toNat ∨ (s.getD (p + 3) 0).toNat < 128 ∨ 191 < (s.getD (p + 3) 0).toNat ∨ (b0.toNat = 240 ∧ (s.getD (p + 1) 0).toNat < 144) ∨ (b0.toNat = 244 ∧ 143 < (s.getD (p + 1) 0).toNat)) then 0 else 4 := by
      unfold szN; rw [if_neg c0, if_neg c2, if_neg c3, if_pos c4]
    have hcont : contF s 3 (p + 1) = true ↔ (128 ≤ (s.getD (p + 1) 0).toNat ∧ (s.getD (p + 1) 0).toNat ≤ 191) ∧ (128 ≤ (s.getD (p + 2) 0).toNat ∧ (s.getD (p + 2) 0).toNat ≤ 191) ∧ (128 ≤ (s.getD (p + 3) 0).toNat ∧ (s.getD (p + 3) 0).toNat ≤ 191) := by
      simp only [contF, Bool.and_true, Bool.and_eq_true, decide_eq_true_eq, Nat.add_assoc, Nat.reduceAdd, and_assoc]
    cases hcf : contF s 3 (p + 1) with
    | false =>
      rw [hcf] at hloop hcont
      have hcont : ¬ ((128 ≤ (s.getD (p + 1) 0).toNat ∧ (s.getD (p + 1) 0).toNat ≤ 191) ∧ (128 ≤ (s.getD (p + 2) 0).toNat ∧ (s.getD (p + 2) 0).toNat ≤ 191) ∧ (128 ≤ (s.getD (p + 3) 0).toNat ∧ (s.getD (p + 3) 0).toNat ≤ 191)) := fun h => by cases hcont.2 h
      rw [hz, if_pos (by omega)]
      simp only [g43, asS_str, asI_int, hi, ifB_decide, if_neg c0', bindO_ok, unc_cons, asB_bool, un0_nil, ifB_beq, letV_eq, ifB_true, ifB_false, sel2_zero, sel2_succ, sel2_one, if_pos (show (b0.toNat : Int) ≥ 194 from by omega), if_neg (show ¬ ((b0.toNat : Int) ≤ 223) from by omega), if_pos (show (b0.toNat : Int) ≥ 224 from by omega), if_neg (show ¬ ((b0.toNat : Int) ≤ 239) from by omega), if_pos (show (b0.toNat : Int) ≥ 240 from by omega), if_pos (show (b0.toNat : Int) ≤ 244 from by omega), if_neg hn0, hw, if_neg hgt, hloop, Bool.false_eq_true, if_false]; rfl
    | true =>
      rw [hcf] at hloop hcont
      have hcont := hcont.1 rfl
      rw [hz]
      by_cases v240 : b0.toNat = 240
      · have e240 : (b0.toNat : Int) = 240 := by omega
        have ne : ¬ (240 : Int) = 224 ∧ ¬ (240 : Int) = 237 ∧ ¬ (240 : Int) = 244 := by omega
        by_cases d : (s.getD (p + 1) 0).toNat < 144
        · have d' : ((s.getD (p + 1) 0).toNat : Int) < 144 := by omega
          rw [if_pos (by omega)]
          simp only [g43, asS_str, asI_int, hi, ifB_decide, if_neg c0', bindO_ok, unc_cons, asB_bool, un0_nil, ifB_beq, letV_eq, ifB_true, ifB_false, sel2_zero, sel2_succ, sel2_one, if_pos (show (b0.toNat : Int) ≥ 194 from by omega), if_neg (show ¬ ((b0.toNat : Int) ≤ 223) from by omega), if_pos (show (b0.toNat : Int) ≥ 224 from by omega), if_neg (show ¬ ((b0.toNat : Int) ≤ 239) from by omega), if_pos (show (b0.toNat : Int) ≥ 240 from by omega), if_pos (show (b0.toNat : Int) ≤ 244 from by omega), if_neg hn0, hw, if_neg hgt, hloop, if_true, hw1, hi1, if_pos e240, if_neg (show ¬ (b0.toNat : Int) = 224 from by omega), if_neg (show ¬ (b0.toNat : Int) = 237 from by omega), if_neg (show ¬ (b0.toNat : Int) = 244 from by omega), if_pos d', decide_eq_true d']; rfl
        · have d' : ¬ ((s.getD (p + 1) 0).toNat : Int) < 144 := by omega
          rw [if_neg (by omega)]
          simp only [g43, asS_str, asI_int, hi, ifB_decide, if_neg c0', bindO_ok, unc_cons, asB_bool, un0_nil, ifB_beq, letV_eq, ifB_true, ifB_false, sel2_zero, sel2_succ, sel2_one, if_pos (show (b0.toNat : Int) ≥ 194 from by omega), if_neg (show ¬ ((b0.toNat : Int) ≤ 223) from by omega), if_pos (show (b0.toNat : Int) ≥ 224 from by omega), if_neg (show ¬ ((b0.toNat : Int) ≤ 239) from by omega), if_pos (show (b0.toNat : Int) ≥ 240 from by omega), if_pos (show (b0.toNat : Int) ≤ 244 from by omega), if_neg hn0, hw, if_neg hgt, hloop, if_true, hw1, hi1, if_pos e240, if_neg (show ¬ (b0.toNat : Int) = 224 from by omega), if_neg (show ¬ (b0.toNat : Int) = 237 from by omega), if_neg (show ¬ (b0.toNat : Int) = 244 from by omega), if_neg d', decide_eq_false d']; rfl
      by_cases v244 : b0.toNat = 244
      · have e244 : (b0.toNat : Int) = 244 := by omega
        have ne : ¬ (244 : Int) = 224 ∧ ¬ (244 : Int) = 237 ∧ ¬ (244 : Int) = 240 := by omega
        by_cases d : (s.getD (p + 1) 0).toNat > 143
        · have d' : ((s.getD (p + 1) 0).toNat : Int) > 143 := by omega
          rw [if_pos (by omega)]
          simp only [g43, asS_str, asI_int, hi, ifB_decide, if_neg c0', bindO_ok, unc_cons, asB_bool, un0_nil, ifB_beq, letV_eq, ifB_true, ifB_false, sel2_zero, sel2_succ, sel2_one, if_pos (show (b0.toNat : Int) ≥ 194 from by omega), if_neg (show ¬ ((b0.toNat : Int) ≤ 223) from by omega), if_pos (show (b0.toNat : Int) ≥ 224 from by omega), if_neg (show ¬ ((b0.toNat : Int) ≤ 239) from by omega), if_pos (show (b0.toNat : Int) ≥ 240 from by omega), if_pos (show (b0.toNat : Int) ≤ 244 from by omega), if_neg hn0, hw, if_neg hgt, hloop, if_true, hw1, hi1, if_pos e244, if_neg (show ¬ (b0.toNat : Int) = 224 from by omega), if_neg (show ¬ (b0.toNat : Int) = 237 from by omega), if_neg (show ¬ (b0.toNat : Int) = 240 from by omega), if_pos d', decide_eq_true d']; rfl
        · have d' : ¬ ((s.getD (p + 1) 0).toNat : Int) > 143 := by omega
          rw [if_neg (by omega)]
          simp only [g43, asS_str, asI_int, hi, ifB_decide, if_neg c0', bindO_ok, unc_cons, asB_bool, un0_nil, ifB_beq, letV_eq, ifB_true, ifB_false, sel2_zero, sel2_succ, sel2_one, if_pos (show (b0.toNat : Int) ≥ 194 from by omega), if_neg (show ¬ ((b0.toNat : Int) ≤ 223) from by omega), if_pos (show (b0.toNat : Int) ≥ 224 from by omega), if_neg (show ¬ ((b0.toNat : Int) ≤ 239) from by omega), if_pos (show (b0.toNat : Int) ≥ 240 from by omega), if_pos (show (b0.toNat : Int) ≤ 244 from by omega), if_neg hn0, hw, if_neg hgt, hloop, if_true, hw1, hi1, if_pos e244, if_neg (show ¬ (b0.toNat : Int) = 224 from by omega), if_neg (show ¬ (b0.toNat : Int) = 237 from by omega), if_neg (show ¬ (b0.toNat : Int) = 240 from by omega), if_neg d', decide_eq_false d']; rfl
      rw [if_neg (by omega)]
      simp only [g43, asS_str, asI_int, hi, ifB_decide, if_neg c0', bindO_ok, unc_cons, asB_bool, un0_nil, ifB_beq, letV_eq, ifB_true, ifB_false, sel2_zero, sel2_succ, sel2_one, if_pos (show (b0.toNat : Int) ≥ 194 from by omega), if_neg (show ¬ ((b0.toNat : Int) ≤ 223) from by omega), if_pos (show (b0.toNat : Int) ≥ 224 from by omega), if_neg (show ¬ ((b0.toNat : Int) ≤ 239) from by omega), if_pos (show (b0.toNat : Int) ≥ 240 from by omega), if_pos (show (b0.toNat : Int) ≤ 244 from by omega), if_neg hn0, hw, if_neg hgt, hloop, if_true, hw1, hi1, if_neg (show ¬ (b0.toNat : Int) = 224 from by omega), if_neg (show ¬ (b0.toNat : Int) = 237 from by omega), if_neg (show ¬ (b0.toNat : Int) = 240 from by omega), if_neg (show ¬ (b0.toNat : Int) = 244 from by omega)]; rfl
end Go.Proofs.YteajphhelkdjnaaDoor.Vm
/- Layouts: Valid; May, by the reference and by the program. -/
set_option maxRecDepth 100000
set_option linter.unusedSimpArgs false
namespace Go.Proofs.YteajphhelkdjnaaDoor.Vm
open Go Go.VM Go.Proofs

theorem valid_loop {s : List UInt8} (hs : s.length ≤ 1000000000000) : ∀ (n p : Nat) (b : Bool) (st : St), s.length ≤ p + n → p ≤ s.length →
    loopO (g31_L1 s) ([.bool b, .int .i64 (p : Int)], st) = some (if validF n (s.drop p) then (0, [.bool b], st) else (1, [.bool false], st))
  | n, p, b, st, h, hp => by
    by_cases he : p = s.length
    · have hn : ¬ ((p : Int) < (s.length : Int)) := by omega
      have hv : validF n (s.drop p) = true := by
        have : s.drop p = [] := by rw [he, List.drop_length]
        rw [this]; cases n <;> simp [validF]
      rw [loopO_inr, hv, if_pos rfl]
      simp only [g31_L1, unc_cons, asB_bool, asI_int, un0_nil, ifB_decide, if_neg hn]
    have hlt : p < s.length := by omega
    have hlt' : (p : Int) < (s.length : Int) := by omega
    match n, h with
    | 0, h => omega
    | n + 1, h =>
      have hne : s.drop p ≠ [] := by
        intro e
        have := congrArg List.length e
        rw [List.length_drop] at this
        simp at this; omega
      have hle := szL_le hne
      rw [List.length_drop] at hle
      have hcall : ∀ {β : Type} (K : Kv β), callS (orc vE) 43 [.str s, .int .i64 (p : Int)] st K = K (.int .i64 (szL (s.drop p) : Int)) st q0 := fun K => callS_bare st K rfl rfl rfl (size_ref hs hlt)
      unfold validF
      rw [if_neg hne]
      by_cases hz : szL (s.drop p) = 0
      · have hz' : (szL (s.drop p) : Int) = 0 := by omega
        rw [if_pos hz, if_neg (by simp), loopO_inr]
        simp only [g31_L1, unc_cons, asB_bool, asI_int, un0_nil, ifB_decide, if_pos hlt', hcall, ifB_beq, if_pos hz']
      · have hz' : ¬ (szL (s.drop p) : Int) = 0 := by omega
        have hw : IntKind.wrap .i64 ((p : Int) + (szL (s.drop p) : Int)) = ((p + szL (s.drop p) : Nat) : Int) := wrap_i64 (by omega) (by omega)
        rw [if_neg hz, loopO_inl (s' := ([.bool b, .int .i64 ((p + szL (s.drop p) : Nat) : Int)], st)), valid_loop hs n (p + szL (s.drop p)) b st (by omega) (by omega), List.drop_drop]
        simp only [g31_L1, unc_cons, asB_bool, asI_int, un0_nil, ifB_decide, if_pos hlt', hcall, ifB_beq, if_neg hz', letV_eq, hw]
theorem valid_ref {s : List UInt8} (hs : s.length ≤ 1000000000000) : (orc vE).bare 31 [.str s] = some (.bool (validS s)) := by
  refine bare_of rfl ((g31_eq _).trans ?_)
  have hl := valid_loop hs s.length 0 false (St.mk 0 0 Tr.leaf) (by omega) (Nat.zero_le _)
  have hl : loopO (g31_L1 s) ([.bool false, .int .i64 0], St.mk 0 0 Tr.leaf) = _ := hl
  rw [List.drop_zero] at hl
  cases hv : validF s.length s <;> rw [hv] at hl <;> simp [g31, hl, validS, hv]
theorem nl_loop {s : List UInt8} (hs : s.length ≤ 1000000000000) : ∀ (l : List UInt8) (i : Nat) (b : Bool) (st : St), s.drop i = l →
    loopO (g16_L1 s) ([.bool b, .int .i64 (i : Int)], st) = some (0, [.bool (b && l.all fun c => c != 10 && c != 13)], st)
  | [], i, b, st, hd => by
    have hi : ¬ ((i : Int) < (s.length : Int)) := by
      have := List.drop_eq_nil_iff.1 hd
      omega
    rw [loopO_inr]
    simp only [g16_L1, unc_cons, asB_bool, asI_int, un0_nil, ifB_decide, if_neg hi, List.all_nil, Bool.and_true]
  | c :: l, i, b, st, hd => by
    obtain ⟨hg, hr, hlt⟩ := drop_cons hd
    have hi : (i : Int) < (s.length : Int) := by omega
    have hw : IntKind.wrap .i64 ((i : Int) + 1) = ((i + 1 : Nat) : Int) := wrap_i64 (by omega) (by omega)
    have hb : s[i] = c := by
      rw [List.getElem?_eq_getElem hlt] at hg
      exact Option.some.inj hg
    have hidx : ∀ {β : Type} (K : UInt8 → Option β), idxStr s (i : Int) K = K c := fun K => by rw [idxStr_nat hlt, hb]
    have e10 : ((c.toNat : Int) != 10) = (c != 10) := by
      rw [Bool.eq_iff_iff]; simp only [bne_iff_ne, ne_eq]
      constructor
      · intro h e; apply h; rw [e]; rfl
      · intro h e; apply h; apply UInt8.toNat_inj.1; show c.toNat = 10; omega
    have e13 : ((c.toNat : Int) != 13) = (c != 13) := by
      rw [Bool.eq_iff_iff]; simp only [bne_iff_ne, ne_eq]
      constructor
      · intro h e; apply h; rw [e]; rfl
      · intro h e; apply h; apply UInt8.toNat_inj.1; show c.toNat = 13; omega
    rw [loopO_inl (s' := ([.bool (b && (c != 10 && c != 13)), .int .i64 ((i + 1 : Nat) : Int)], st)), nl_loop hs l (i + 1) _ st hr]
    · simp only [List.all_cons, Bool.and_assoc]
    · simp only [g16_L1, unc_cons, asB_bool, asI_int, un0_nil, ifB_decide, if_pos hi, hidx, e10, e13]
      cases b <;> cases c != 10 <;> simp [letV_eq, hw]
theorem any_all (s : List UInt8) : (s.all fun c => c != 10 && c != 13) = (!(s.any fun b => b == 10) && !(s.any fun b => b == 13)) := by
  induction s with
  | nil => rfl
  | cons c s ih =>
    rw [List.all_cons, List.any_cons, List.any_cons, ih]
    simp only [bne]
    cases c == 10 <;> cases c == 13 <;> simp
theorem nil_beq (s : List UInt8) : (s == []) = s.isEmpty := by cases s <;> rfl
theorem isEmpty_len {kids : List Doc} {es : List AV} (h : es.length = kids.length) : es = [] ↔ kids.isEmpty = true := by
  cases kids with
  | nil => simp only [List.length_nil] at h; simp [List.eq_nil_of_length_eq_zero h]
  | cons d l =>
    simp only [List.isEmpty_cons]
    constructor
    · rintro rfl; simp at h
    · intro h; cases h
mutual
theorem may_ref : ∀ (d : Doc) (v : AV), IsDoc d v → txtD d ≤ 1000000000 → (orc vE).bare 16 [v] = some (.bool (mayD d))
  | .mk k s n kids, v, hv, hb => by
    obtain ⟨x, es, rfl, r1, r2, r3, hx, hes⟩ := hv
    simp only [txtD] at hb
    refine bare_of rfl ((g16_eq _).trans ?_)
    have hl : ∀ b st, loopO (g16_L2 x) ([AV.bool b, AV.int .i64 0], st) = _ := fun b st => may_loop kids x es 0 b st hx (by simpa using hes) (by omega)
    have hnl : ∀ b st, loopO (g16_L1 s) ([AV.bool b, AV.int .i64 0], st) = _ := fun b st => nl_loop (s := s) (by omega) s 0 b st rfl
    have hval : ∀ {β : Type} (st : St) (K : Kv β), callS (orc vE) 31 [.str s] st K = K (.bool (validS s)) st q0 := fun st K => callS_bare st K rfl rfl rfl (valid_ref (by omega))
    have hlen := hes.all.len
    have hem := isEmpty_len hlen
    simp only [mayD, okD]
    by_cases k1 : k = 1
    · subst k1
      by_cases n0 : n = 0
      · subst n0
        by_cases he : es = []
        · have hke : kids.isEmpty = true := hem.1 he
          simp [g16, unA_agg, unc_cons, asI_int, asS_str, un0_nil, hx.asOne, hx.fit1, hx.len, he, hval, hnl, hl, hke, any_all, Bool.and_assoc]
        · have hke : kids.isEmpty = false := by cases h : kids.isEmpty <;> simp_all
          simp [g16, unA_agg, unc_cons, asI_int, asS_str, un0_nil, hx.asOne, hx.fit1, hx.len, he, hval, hnl, hl, hke]
      · simp [g16, unA_agg, unc_cons, asI_int, asS_str, un0_nil, hx.asOne, hx.fit1, hx.len, n0, hval, hnl, hl]
    by_cases k2 : k = 2 ∨ k = 3 ∨ k = 4
    · by_cases n0 : n = 0
      · subst n0
        by_cases he : es = []
        · have hke : kids.isEmpty = true := hem.1 he
          rcases k2 with rfl | rfl | rfl <;> simp [g16, unA_agg, unc_cons, asI_int, asS_str, un0_nil, hx.asOne, hx.fit1, hx.len, he, hl, hke]
        · have hke : kids.isEmpty = false := by cases h : kids.isEmpty <;> simp_all
          rcases k2 with rfl | rfl | rfl <;> simp [g16, unA_agg, unc_cons, asI_int, asS_str, un0_nil, hx.asOne, hx.fit1, hx.len, he, hl, hke]
      · rcases k2 with rfl | rfl | rfl <;> simp [g16, unA_agg, unc_cons, asI_int, asS_str, un0_nil, hx.asOne, hx.fit1, hx.len, n0, hl]
    have k2' : ¬ k = 2 ∧ ¬ k = 3 ∧ ¬ k = 4 := by omega
    by_cases k5 : k = 5
    · subst k5
      by_cases h0 : n ≥ 0
      · have h0' : 0 ≤ n := h0
        by_cases h2 : n ≤ 200
        · simp [g16, unA_agg, unc_cons, asI_int, asS_str, un0_nil, hx.asOne, hx.fit1, hx.len, hl, h0', h2]
        · simp [g16, unA_agg, unc_cons, asI_int, asS_str, un0_nil, hx.asOne, hx.fit1, hx.len, hl, h0', h2]
      · have h0' : ¬ 0 ≤ n := h0
        simp [g16, unA_agg, unc_cons, asI_int, asS_str, un0_nil, hx.asOne, hx.fit1, hx.len, hl, h0']
    by_cases k6 : k = 6 ∨ k = 7
    · by_cases n0 : n = 0
      · subst n0
        rcases k6 with rfl | rfl <;> simp [g16, unA_agg, unc_cons, asI_int, asS_str, un0_nil, hx.asOne, hx.fit1, hx.len, hl]
      · rcases k6 with rfl | rfl <;> simp [g16, unA_agg, unc_cons, asI_int, asS_str, un0_nil, hx.asOne, hx.fit1, hx.len, hl, n0]
    have k6' : ¬ k = 6 ∧ ¬ k = 7 := by omega
    simp [g16, unA_agg, unc_cons, asI_int, asS_str, un0_nil, hx.asOne, hx.fit1, hx.len, hl, k1, k2', k5, k6']
theorem may_loop : ∀ (ds : List Doc) (x : AV) (es : List AV) (i : Nat) (b : Bool) (st : St), IsSl 4 x es → IsDocs ds (es.drop i) → txtDs ds ≤ 1000000000 →
    loopO (g16_L2 x) ([.bool b, .int .i64 (i : Int)], st) = some (0, [.bool (b && mayDs ds)], st)
  | [], x, es, i, b, st, hx, hd, _ => by
    have hi := no_doc hd
    rw [loopO_inr]
    simp only [g16_L2, unc_cons, asB_bool, asI_int, un0_nil, hx.len, ifB_decide, if_neg hi, bindO_ok, ifB_false, mayDs, Bool.and_true]
  | d :: ds, x, es, i, b, st, hx, hd, hb => by
    obtain ⟨v, hv, hd, hi, hw, hidx, ht⟩ := elem_doc (β := Sum Car (Nat × Car)) hx hd
    simp only [txtDs] at hb
    cases b with
    | false =>
      rw [loopO_inr]
      simp only [g16_L2, unc_cons, asB_bool, asI_int, un0_nil, hx.len, ifB_decide, if_pos hi, bindO_ok, ifB_false, Bool.false_and]
    | true =>
      have hcall := fun K => call1 (β := Sum Car (Nat × Car)) (f := 16) st rfl hv.bare (may_ref d v hv (by omega)) K
      have ih := may_loop ds x es (i + 1) (mayD d) st hx hd (by omega)
      obtain ⟨k, s, n, kids⟩ := d
      obtain ⟨y, es', rfl, _⟩ := hv
      rw [loopO_inl (s' := ([.bool (mayD (.mk k s n kids)), .int .i64 ((i + 1 : Nat) : Int)], st)), ih]
      · simp only [mayDs, Bool.true_and]
      · simp only [g16_L2, unc_cons, asB_bool, asI_int, un0_nil, hx.len, ifB_decide, if_pos hi, bindO_ok, ifB_true, hidx, loadS_ip, ht, unA_agg, asS_str, hcall, letV_eq, hw]
end
theorem any_may : ∀ (ds : List Doc), (!(ds.any fun d => !mayD d)) = mayDs ds
  | [] => rfl
  | d :: ds => by
    simp only [List.any_cons, mayDs, ← any_may ds]
    cases mayD d <;> simp
theorem txt_mem {d : Doc} : ∀ {ds : List Doc}, d ∈ ds → txtD d ≤ txtDs ds
  | _ :: _, h => by
    rcases List.mem_cons.1 h with rfl | h
    · simp only [txtDs]; omega
    · have := txt_mem h; simp only [txtDs]; omega
/-- The program's May. -/
theorem may_prog (d : Doc) (v : AV) (hv : IsDoc d v) (hb : txtD d ≤ 1000000000) : (orc vE).bare 15 [v] = some (.bool (mayD d)) := by
  match d with
  | .mk k s n kids =>
    obtain ⟨x, es, rfl, r1, r2, r3, hx, hes⟩ := hv
    simp only [txtD] at hb
    refine bare_of rfl ((g15_eq _).trans ?_)
    have hc := fun (st : St) (K : Kv Car) => contains_of (f := 30) rfl rfl (fun d => !mayD d) hx hes (fun d hd v hv => by
      have hrec := may_prog d v hv (by have := txt_mem hd; omega)
      have hcall := fun K => call1 (β := AV) (f := 15) (St.mk 0 0 Tr.leaf) rfl hv.bare hrec K
      refine bare_of rfl ((g30_eq _).trans ?_)
      obtain ⟨k', s', n', kids'⟩ := d
      obtain ⟨y, es', rfl, _, _, _, hy, _⟩ := hv
      simp only [g30, unA_agg, unc_cons, asI_int, asS_str, un0_nil, hy.asOne, hy.fit1, hcall, asB_bool]) st K
    have hval : ∀ {β : Type} (st : St) (K : Kv β), planS (orc vE) (primP (Prim.lib libValid) [.str s]) st K = K (.bool (validS s)) st q0 := fun st K => planS_lib (libValid_ok (by omega)) st K
    have hco : ∀ {β : Type} (c : UInt8) (st : St) (K : Kv β), planS (orc vE) (primP (Prim.lib libContains) [.str s, .str [c]]) st K = K (.bool (s.any fun b => b == c)) st q0 := fun c st K => planS_lib (libContains_ok s c) st K
    have hlen := hes.all.len
    have hem := isEmpty_len hlen
    have hfin : ∀ (b : Bool) (st : St) (K : Car → Option AV), bindO (ifB b (callS (orc vE) 29 [x, AV.fn (Fn.func 30) [] []] st fun v72 st73 _x => asB v72 fun b75 => some ([AV.bool !b75], st73)) (some ([AV.bool false], st))) K = K ([.bool (b && mayDs kids)], st) := fun b st K => by
      cases b with
      | false => rfl
      | true =>
        rw [ifB_true, hc, asB_bool, bindO_ok, any_may]; rfl
    simp only [mayD, okD]
    by_cases k1 : k = 1
    · subst k1
      by_cases n0 : n = 0
      · subst n0
        by_cases he : es = []
        · have hke : kids.isEmpty = true := hem.1 he
          cases hv : validS s with
          | false => simp [g15, unA_agg, unc_cons, asI_int, asS_str, un0_nil, hx.asOne, hx.fit1, hx.len, he, hval, hco, hfin, hke, hv]
          | true =>
            cases h10 : s.any fun b => b == 10 with
            | false => simp [g15, unA_agg, unc_cons, asI_int, asS_str, un0_nil, hx.asOne, hx.fit1, hx.len, he, hval, hco, hfin, hke, hv, h10]
            | true => simp [g15, unA_agg, unc_cons, asI_int, asS_str, un0_nil, hx.asOne, hx.fit1, hx.len, he, hval, hco, hfin, hke, hv, h10]
        · have hke : kids.isEmpty = false := by cases h : kids.isEmpty <;> simp_all
          simp [g15, unA_agg, unc_cons, asI_int, asS_str, un0_nil, hx.asOne, hx.fit1, hx.len, he, hval, hco, hfin, hke]
      · simp [g15, unA_agg, unc_cons, asI_int, asS_str, un0_nil, hx.asOne, hx.fit1, hx.len, n0, hval, hco, hfin]
    by_cases k2 : k = 2 ∨ k = 3 ∨ k = 4
    · by_cases n0 : n = 0
      · subst n0
        by_cases he : es = []
        · have hke : kids.isEmpty = true := hem.1 he
          rcases k2 with rfl | rfl | rfl <;> simp [g15, unA_agg, unc_cons, asI_int, asS_str, un0_nil, hx.asOne, hx.fit1, hx.len, he, hfin, hke]
        · have hke : kids.isEmpty = false := by cases h : kids.isEmpty <;> simp_all
          rcases k2 with rfl | rfl | rfl <;> simp [g15, unA_agg, unc_cons, asI_int, asS_str, un0_nil, hx.asOne, hx.fit1, hx.len, he, hfin, hke]
      · rcases k2 with rfl | rfl | rfl <;> simp [g15, unA_agg, unc_cons, asI_int, asS_str, un0_nil, hx.asOne, hx.fit1, hx.len, n0, hfin]
    have k2' : ¬ k = 2 ∧ ¬ k = 3 ∧ ¬ k = 4 := by omega
    by_cases k5 : k = 5
    · subst k5
      by_cases h0 : n ≥ 0
      · have h0' : 0 ≤ n := h0
        by_cases h2 : n ≤ 200
        · simp [g15, unA_agg, unc_cons, asI_int, asS_str, un0_nil, hx.asOne, hx.fit1, hx.len, hfin, h0', h2]
        · simp [g15, unA_agg, unc_cons, asI_int, asS_str, un0_nil, hx.asOne, hx.fit1, hx.len, hfin, h0', h2]
      · have h0' : ¬ 0 ≤ n := h0
        simp [g15, unA_agg, unc_cons, asI_int, asS_str, un0_nil, hx.asOne, hx.fit1, hx.len, hfin, h0']
    by_cases k6 : k = 6 ∨ k = 7
    · by_cases n0 : n = 0
      · subst n0
        rcases k6 with rfl | rfl <;> simp [g15, unA_agg, unc_cons, asI_int, asS_str, un0_nil, hx.asOne, hx.fit1, hx.len, hfin]
      · rcases k6 with rfl | rfl <;> simp [g15, unA_agg, unc_cons, asI_int, asS_str, un0_nil, hx.asOne, hx.fit1, hx.len, hfin, n0]
    have k6' : ¬ k = 6 ∧ ¬ k = 7 := by omega
    simp [g15, unA_agg, unc_cons, asI_int, asS_str, un0_nil, hx.asOne, hx.fit1, hx.len, hfin, k1, k2', k5, k6']
termination_by SizeOf.sizeOf d
decreasing_by
  have := mem_size hd
  simp_wf
  omega
end Go.Proofs.YteajphhelkdjnaaDoor.Vm
/- Layouts: Show and Flat; without blanks; the example. -/
set_option maxRecDepth 100000
set_option linter.unusedSimpArgs false
namespace Go.Proofs.YteajphhelkdjnaaDoor.Vm
open Go Go.VM Go.Proofs

def showD (d : Doc) (w : Int) : List UInt8 × Int :=
  if w < 1 ∨ w > 200 then ([], 1) else if mayD d = false then ([], 4) else (layF w (cntD d) [(d, 0, false)] 0, 0)
def flatD (d : Doc) : List UInt8 × Bool :=
  if mayD d = false ∨ hardD d = true then ([], false) else (layF 1 (cntD d) [(d, 0, true)] 0, true)
def flatT (l : List Todo) : Prop := ∀ t ∈ l, t.2.2 = true
theorem flatT_kids {ks : List Doc} {i : Int} {l : List Todo} (h : flatT l) : flatT (kidsT ks i true ++ l) := by
  intro t ht
  rcases List.mem_append.1 ht with ht | ht
  · obtain ⟨d, _, rfl⟩ := List.mem_map.1 ht; rfl
  · exact h t ht
/-- What is flat does not hang on the width. -/
theorem layF_flat (w w' : Int) : ∀ (n : Nat) (l : List Todo) (c : Int), flatT l → layF w n l c = layF w' n l c
  | 0, _, _, _ => rfl
  | _ + 1, [], _, _ => rfl
  | n + 1, (.mk k s m kids, i, f) :: l, c, h => by
    have hf : f = true := h _ (List.mem_cons_self)
    subst hf
    have hl : flatT l := fun t ht => h t (List.mem_cons_of_mem _ ht)
    simp only [layF, Bool.true_or, layF_flat w w' n l _ hl, layF_flat w w' n (kidsT kids _ true ++ l) _ (flatT_kids hl)]
theorem todo_of {d : Doc} {v : AV} (hv : IsDoc d v) (f : Bool) : ∃ k s n x, v = .agg [.int .u8 k, .str s, .int .i64 n, x] ∧ IsTodo (d, 0, f) (.agg [.int .u8 k, .str s, .int .i64 n, x, .int .i64 0, .bool f]) ∧ one x = true ∧ (∀ {β : Type} (K : AV → Option β), fit1 x K = K x) := by
  obtain ⟨k, s, n, kids⟩ := d
  have hv' := hv
  obtain ⟨x, es, rfl, r1, r2, r3, hx, hes⟩ := hv
  exact ⟨k, s, n, x, rfl, ⟨_, _, _, _, hv', rfl⟩, hx.one, fun K => hx.fit1 K⟩
theorem lay1_ref {d : Doc} {v : AV} {f : Bool} (ht : IsTodo (d, 0, f) v) (hn : mayD d = true) (h1 : cntD d ≤ 2000) (h2 : txtD d ≤ 100000) {w : Int} (hw : -1000000000 ≤ w ∧ w ≤ 1000000000) {β : Type} (st : St) (K : Kv β) :
    callS (orc vE) 24 [.sl 6 [v] .shut, .int .i64 w] st K = K (.str (layF w (cntD d) [(d, 0, f)] 0)) st q0 := by
  have hm : msr [(d, (0 : Int), f)] = cntD d := by simp [msr]
  have hl := lay_ref (l := [(d, 0, f)]) (x := .sl 6 [v] .shut) (ws := [v]) (w := w) (I := 0) hw (by omega) (IsSl.shut (by simp)) ⟨v, [], rfl, ht, rfl⟩ (by simp [numsT, may_nums d hn]) (by omega) (by intro t h; simp at h; subst h; exact ⟨Int.le_refl _, Int.le_refl _⟩) (by simp [msr, txt]; omega)
  rw [hm] at hl
  exact callS_bare st K rfl rfl (by rfl) hl
theorem show_ref {d : Doc} {v : AV} (hv : IsDoc d v) (w : Int) (h1 : cntD d ≤ 2000) (h2 : txtD d ≤ 100000) : (orc vE).bare 12 [v, .int .i64 w] = some (.tup [.str (showD d w).1, .int .i64 (showD d w).2]) := by
  refine bare_of rfl ((g12_eq _ _).trans ?_)
  obtain ⟨k, s, n, x, rfl, ht, ho, hf⟩ := todo_of hv false
  have hmay := fun {β : Type} (st : St) (K : Kv β) => call1 (f := 16) st rfl hv.bare (may_ref d _ hv (by omega)) K
  have hx := fun {β : Type} (K : Option β) => asOne_of ho K
  unfold showD
  by_cases c1 : w < 1
  · rw [if_pos (.inl c1)]
    simp only [g12, unA_agg, unc_cons, asI_int, asS_str, un0_nil, hx, hf, ifB_decide, if_pos c1, bindO_ok, asB_bool, ifB_true]
  by_cases c2 : w > 200
  · rw [if_pos (.inr c2)]
    simp only [g12, unA_agg, unc_cons, asI_int, asS_str, un0_nil, hx, hf, ifB_decide, if_neg c1, bindO_ok, asB_bool, if_pos c2]
  rw [if_neg (by omega)]
  cases hm : mayD d with
  | false =>
    rw [hm] at hmay
    simp only [g12, unA_agg, unc_cons, asI_int, asS_str, un0_nil, hx, hf, ifB_decide, if_neg c1, bindO_ok, asB_bool, if_neg c2, hmay, Bool.not_false, ifB_true, if_true]
  | true =>
    rw [hm] at hmay
    have hlay := fun {β : Type} (st : St) (K : Kv β) => lay1_ref ht hm h1 h2 (w := w) (by omega) st K
    simp only [g12, unA_agg, unc_cons, asI_int, asS_str, un0_nil, hx, hf, ifB_decide, if_neg c1, bindO_ok, asB_bool, if_neg c2, hmay, Bool.not_true, ifB_false, hlay, Bool.true_eq_false, if_false]
theorem flat_ref {d : Doc} {v : AV} (hv : IsDoc d v) (h1 : cntD d ≤ 2000) (h2 : txtD d ≤ 100000) : (orc vE).bare 14 [v] = some (.tup [.str (flatD d).1, .bool (flatD d).2]) := by
  refine bare_of rfl ((g14_eq _).trans ?_)
  obtain ⟨k, s, n, x, rfl, ht, ho, hf⟩ := todo_of hv true
  have hmay := fun {β : Type} (st : St) (K : Kv β) => call1 (f := 16) st rfl hv.bare (may_ref d _ hv (by omega)) K
  have hhard := fun {β : Type} (st : St) (K : Kv β) => call1 (f := 26) st rfl hv.bare (hard_ref d _ hv) K
  have hx := fun {β : Type} (K : Option β) => asOne_of ho K
  unfold flatD
  cases hm : mayD d with
  | false =>
    rw [hm] at hmay
    simp only [g14, unA_agg, unc_cons, asI_int, asS_str, un0_nil, hx, hf, bindO_ok, asB_bool, hmay, Bool.not_false, ifB_true, if_true, true_or]
  | true =>
    rw [hm] at hmay
    cases hh : hardD d with
    | true =>
      rw [hh] at hhard
      simp only [g14, unA_agg, unc_cons, asI_int, asS_str, un0_nil, hx, hf, bindO_ok, asB_bool, hmay, hhard, Bool.not_true, ifB_false, ifB_true, if_true, or_true]
    | false =>
      rw [hh] at hhard
      have hlay := fun {β : Type} (st : St) (K : Kv β) => lay1_ref ht hm h1 h2 (w := 1) (by omega) st K
      simp only [g14, unA_agg, unc_cons, asI_int, asS_str, un0_nil, hx, hf, bindO_ok, asB_bool, hmay, hhard, Bool.not_true, ifB_false, hlay, Bool.true_eq_false, Bool.false_eq_true, or_self, if_false]
theorem lay1_prog {d : Doc} {v : AV} {f : Bool} (ht : IsTodo (d, 0, f) v) (hn : mayD d = true) (h1 : cntD d ≤ 2000) (h2 : txtD d ≤ 100000) {w : Int} (hw : -1000000000 ≤ w ∧ w ≤ 1000000000) {st : St} (hro : st.ro ≤ st.h) :
    ∃ st' fx, ∀ {β : Type} (K : Kv β), callS (orc vE) 23 [.mp st.h 0, .sl 6 [v] .shut] (st.add (.cells 56 [.nilp, .nils, .int .i64 0, .int .i64 w])) K = K (.str (layF w (cntD d) [(d, 0, f)] 0)) st' fx := by
  have hm : msr [(d, (0 : Int), f)] = cntD d := by simp [msr]
  have hW : IsW (st.add (.cells 56 [.nilp, .nils, .int .i64 0, .int .i64 w])) st.h 0 w [] := ⟨.nilp, .nils, St.get_add_new, .inl rfl, .inl ⟨rfl, rfl⟩, hro⟩
  obtain ⟨st', hl⟩ := wlay_ok (l := [(d, 0, f)]) (x := .sl 6 [v] .shut) (ws := [v]) (w := w) (I := 0) (p := st.h) hw (by omega) ⟨by simp, .inl rfl⟩ ⟨v, [], rfl, ht, rfl⟩ (by simp [mayT, hn]) (by omega) (by intro t h; simp at h; subst h; exact ⟨Int.le_refl _, Int.le_refl _⟩) (by simp [msr, txt]; omega)
    (by show st.ro ≤ st.h + 1; omega) hW
  rw [hm] at hl
  exact ⟨st', _, fun K => callS_wide K rfl rfl hl⟩
theorem show_prog {d : Doc} {v : AV} (hv : IsDoc d v) (w : Int) (h1 : cntD d ≤ 2000) (h2 : txtD d ≤ 100000) : (orc vE).bare 10 [v, .int .i64 w] = some (.tup [.str (showD d w).1, .int .i64 (showD d w).2]) := by
  refine bare_of rfl ((g10_eq _ _).trans ?_)
  obtain ⟨k, s, n, x, rfl, ht, ho, hf⟩ := todo_of hv false
  have hmay := fun {β : Type} (st : St) (K : Kv β) => call1 (f := 15) st rfl hv.bare (may_prog d _ hv (by omega)) K
  have hx := fun {β : Type} (K : Option β) => asOne_of ho K
  unfold showD
  by_cases c1 : w < 1
  · rw [if_pos (.inl c1)]
    simp only [g10, unA_agg, unc_cons, asI_int, asS_str, un0_nil, hx, hf, ifB_decide, if_pos c1, bindO_ok, asB_bool, ifB_true]
  by_cases c2 : w > 200
  · rw [if_pos (.inr c2)]
    simp only [g10, unA_agg, unc_cons, asI_int, asS_str, un0_nil, hx, hf, ifB_decide, if_neg c1, bindO_ok, asB_bool, if_pos c2]
  rw [if_neg (by omega)]
  cases hm : mayD d with
  | false =>
    rw [hm] at hmay
    simp only [g10, unA_agg, unc_cons, asI_int, asS_str, un0_nil, hx, hf, ifB_decide, if_neg c1, bindO_ok, asB_bool, if_neg c2, hmay, Bool.not_false, ifB_true, if_true]
  | true =>
    rw [hm] at hmay
    obtain ⟨st', fx, hlay⟩ := lay1_prog ht hm h1 h2 (w := w) (by omega) (st := St.mk 0 0 Tr.leaf) (Nat.le_refl _)
    simp only [g10, unA_agg, unc_cons, asI_int, asS_str, un0_nil, hx, hf, ifB_decide, if_neg c1, bindO_ok, asB_bool, if_neg c2, hmay, Bool.not_true, ifB_false, letSt_eq, hlay, Bool.true_eq_false, if_false]
theorem flat_prog {d : Doc} {v : AV} (hv : IsDoc d v) (h1 : cntD d ≤ 2000) (h2 : txtD d ≤ 100000) : (orc vE).bare 13 [v] = some (.tup [.str (flatD d).1, .bool (flatD d).2]) := by
  refine bare_of rfl ((g13_eq _).trans ?_)
  obtain ⟨k, s, n, x, rfl, ht, ho, hf⟩ := todo_of hv true
  have hmay := fun {β : Type} (st : St) (K : Kv β) => call1 (f := 15) st rfl hv.bare (may_prog d _ hv (by omega)) K
  have hhard := fun {β : Type} (st : St) (K : Kv β) => call1 (f := 25) st rfl hv.bare (hard_prog d _ hv) K
  have hx := fun {β : Type} (K : Option β) => asOne_of ho K
  unfold flatD
  cases hm : mayD d with
  | false =>
    rw [hm] at hmay
    simp only [g13, unA_agg, unc_cons, asI_int, asS_str, un0_nil, hx, hf, bindO_ok, asB_bool, hmay, Bool.not_false, ifB_true, if_true, true_or]
  | true =>
    rw [hm] at hmay
    cases hh : hardD d with
    | true =>
      rw [hh] at hhard
      simp only [g13, unA_agg, unc_cons, asI_int, asS_str, un0_nil, hx, hf, bindO_ok, asB_bool, hmay, hhard, Bool.not_true, ifB_false, ifB_true, if_true, or_true]
    | false =>
      rw [hh] at hhard
      obtain ⟨st', fx, hlay⟩ := lay1_prog ht hm h1 h2 (w := 0) (by omega) (st := St.mk 0 0 Tr.leaf) (Nat.le_refl _)
      have he : layF 0 (cntD d) [(d, 0, true)] 0 = layF 1 (cntD d) [(d, 0, true)] 0 := layF_flat _ _ _ _ _ (by intro t h; simp at h; subst h; rfl)
      rw [he] at hlay
      simp only [g13, unA_agg, unc_cons, asI_int, asS_str, un0_nil, hx, hf, bindO_ok, asB_bool, hmay, hhard, Bool.not_true, ifB_false, letSt_eq, hlay, Bool.true_eq_false, Bool.false_eq_true, or_self, if_false]
theorem awake_ok : (orc vE).bare 9 [] = some (.bool true) := by
  have h : isTrue ((caller vE 60).bare 9 []) = true := by kernel_rfl
  exact orc_bare (isTrue_ok h)
end Go.Proofs.YteajphhelkdjnaaDoor.Vm
/- LayoutShows: what the law's shallow form tells. -/
set_option maxRecDepth 100000
set_option linter.unusedSimpArgs false
namespace Go.Proofs.YteajphhelkdjnaaDoor.Vm
open Go Go.VM Go.Proofs

mutual
theorem cnt_cost : ∀ (d : Doc), cntD d ≤ costD d ∧ txtD d ≤ 20 * costD d
  | .mk k s n kids => by
    have := cnts_costs kids
    simp only [cntD, costD, txtD]
    omega
theorem cnts_costs : ∀ (l : List Doc), cntDs l ≤ costDs l ∧ txtDs l ≤ 20 * costDs l
  | [] => by simp [cntDs, costDs, txtDs]
  | d :: l => by
    have := cnt_cost d
    have := cnts_costs l
    simp only [cntDs, costDs, txtDs]
    omega
end
theorem call_awake {β : Type} (st : St) (K : Kv β) : callS (orc vE) 9 [] st K = K (.bool true) st q0 := callS_bare st K rfl rfl rfl awake_ok
theorem call_parts {d : Doc} {v : AV} (hv : IsDoc d v) (most : Nat) (hm : most ≤ 1000000) : ∃ r : Nat, (∀ {β : Type} (st : St) (K : Kv β), callS (orc vE) 8 [v, .int .i64 (most : Int)] st K = K (.int .i64 (r : Int)) st q0) ∧ (r < most → costD d < most) := by
  obtain ⟨r, h1, h2, h3, h4⟩ := parts_ok d v most hv hm
  refine ⟨r, fun st K => callS_bare st K rfl (by simp [hv.bare.2]; rfl) (by simp only [bares_cons, hv.bare.1]; rfl) h1, fun h => ?_⟩
  by_cases hc : costD d < most
  · exact hc
  · have := h4 (by omega); omega
theorem call_given {d : Doc} {v : AV} (hv : IsDoc d v) (hc : cntD d ≤ 100000) : ∃ v', IsDoc d v' ∧ ∀ {β : Type} (st : St) (K : Kv β), callS (orc vE) 11 [v] st K = K v' st q0 := by
  obtain ⟨v', h1, h2⟩ := given_ok d v hv hc
  exact ⟨v', h2, fun st K => call1 st rfl hv.bare h1 K⟩
theorem call_show {d : Doc} {v : AV} (hv : IsDoc d v) (w : Int) (h1 : cntD d ≤ 2000) (h2 : txtD d ≤ 100000) {β : Type} (st : St) (K : Kv β) : callS (orc vE) 10 [v, .int .i64 w] st K = K (.tup [.str (showD d w).1, .int .i64 (showD d w).2]) st q0 :=
  callS_bare st K rfl (by simp [hv.bare.2]; rfl) (by simp only [bares_cons, hv.bare.1]; rfl) (show_prog hv w h1 h2)
theorem call_show_ref {d : Doc} {v : AV} (hv : IsDoc d v) (w : Int) (h1 : cntD d ≤ 2000) (h2 : txtD d ≤ 100000) {β : Type} (st : St) (K : Kv β) : callS (orc vE) 12 [v, .int .i64 w] st K = K (.tup [.str (showD d w).1, .int .i64 (showD d w).2]) st q0 :=
  callS_bare st K rfl (by simp [hv.bare.2]; rfl) (by simp only [bares_cons, hv.bare.1]; rfl) (show_ref hv w h1 h2)
theorem law_shows {d : Doc} {v : AV} (hv : IsDoc d v) (w : Int) : (orc vE).bare 3 [v, .int .i64 w] = some (.bool true) := by
  refine bare_of rfl ((g3_eq _ _).trans ?_)
  obtain ⟨r, hparts, hr⟩ := call_parts hv 400 (by omega)
  have hparts : ∀ {β : Type} (st : St) (K : Kv β), callS (orc vE) 8 [v, .int .i64 400] st K = K (.int .i64 (r : Int)) st q0 := fun st K => hparts st K
  have hbv := hv
  obtain ⟨k, s, n, kids⟩ := d
  obtain ⟨x, es, rfl, r1, r2, r3, hx, hes⟩ := hbv
  by_cases hge : (r : Int) ≥ 400
  · simp only [g3, unA_agg, unc_cons, asI_int, asS_str, un0_nil, hx.asOne, hx.fit1, hparts, ifB_decide, if_pos hge, call_awake, asB_bool]
  have hc := hr (by omega)
  have hcc := cnt_cost (.mk k s n kids)
  have b1 : cntD (.mk k s n kids) ≤ 2000 := by omega
  have b2 : txtD (.mk k s n kids) ≤ 100000 := by omega
  obtain ⟨v', hv', hgiven⟩ := call_given hv (by omega)
  have h10 := fun {β : Type} (st : St) (K : Kv β) => call_show hv' w b1 b2 st K
  have h12 := fun {β : Type} (st : St) (K : Kv β) => call_show_ref hv w b1 b2 st K
  have h13 : ∀ {β : Type} (st : St) (K : Kv β), callS (orc vE) 13 [v'] st K = K (.tup [.str (flatD (.mk k s n kids)).1, .bool (flatD (.mk k s n kids)).2]) st q0 := fun st K => call1 st rfl hv'.bare (flat_prog hv' b1 b2) K
  have h14 := fun {β : Type} (st : St) (K : Kv β) => call1 st rfl hv.bare (flat_ref hv b1 b2) K
  have h15 : ∀ {β : Type} (st : St) (K : Kv β), callS (orc vE) 15 [v'] st K = K (.bool (mayD (.mk k s n kids))) st q0 := fun st K => call1 st rfl hv'.bare (may_prog _ _ hv' (by omega)) K
  have h16 := fun {β : Type} (st : St) (K : Kv β) => call1 st rfl hv.bare (may_ref _ _ hv (by omega)) K
  obtain ⟨x', es', rfl, _, _, _, hx', _⟩ := hv'
  simp only [g3, unA_agg, unc_cons, asI_int, asS_str, un0_nil, hx.asOne, hx.fit1, hparts, ifB_decide, if_neg hge, hgiven, h10, unT_tup, nthS_zero, nthS_one, h12, h13, asB_bool, h14, h15, h16, apart_kept2, Bool.and_self, chk_true, beq_self_eq_true, ifB_true, call_awake, bindO_ok]
end Go.Proofs.YteajphhelkdjnaaDoor.Vm
set_option maxRecDepth 1000000
set_option maxHeartbeats 0
namespace Go.Proofs.YteajphhelkdjnaaDoor.Vm
open Go Go.VM Go.Proofs
/-- rostrum/rostrumlaw19.LayoutOne -/
noncomputable def g6 : AV → AV → Option AV := fun x0 x1 => asI .i64 x1 fun n0 => asOne x0 (asOne x0 (bindO (callS (orc vE) 8 [AV.agg [AV.int .u8 6, AV.str [], AV.int .i64 0, x0], AV.int .i64 400] (St.mk 1 0 (Tr.node
 (some (VM.Obj.cells 24 [AV.int .u8 6, AV.str [], AV.int .i64 0, x0])) Tr.leaf Tr.leaf)) fun v3 st4 _x => asI .i64 v3 fun n6 => ifB (decide (n6 ≥ 400)) (some ([AV.bool true], st4)) (callS (orc vE) 9 [] st4 fun v7 st8 _x
 => asB v7 fun b10 => some ([AV.bool !b10], st8))) fun c11 => unc (Prod.fst c11) fun v12 l13 => asB v12 fun b14 => un0 l13 (ifB b14 (callS (orc vE) 9 [] (Prod.snd c11) fun v15 _x _x_1 => asB v15 fun b18 => some (AV.bool
 b18)) (loadS 4 true (AV.mp 0 0) (Prod.snd c11) fun v23 _x
 => unA v23 fun l26 => unc l26 fun v27 l28 => asI .u8 v27 fun n29 => unc l28 fun v30 l31 => asS v30 fun l32 => unc l31 fun v33 l34 => asI .i64 v33 fun n35 => unc l34 fun v36 l37 => un0 l37 (callS (orc vE) 11 [AV.agg
 [AV.int .u8 n29, AV.str l32, AV.int .i64 n35, v36]] (Prod.snd c11) fun v38 st39 _x => unA v38 fun l42 => unc l42 fun v43 l44 => asI .u8 v43 fun n45 => unc l44 fun v46 l47 => asS v46 fun l48 => unc l47 fun v49 l50 => asI
 .i64 v49 fun n51 => unc l50 fun v52 l53 => un0 l53 (callS (orc vE) 13 [AV.agg [AV.int .u8 n45, AV.str l48, AV.int .i64 n51, v52]] st39 fun v54 st55 _x => unT v54 fun l57 => nthS l57 0 fun v58 => asS v58 fun l59 => unT
 v54 fun l60 => nthS l60 1 fun v61 => asB v61 fun b62 => loadS 4 true (AV.mp 0 0) st55 fun v63 _x => unA v63 fun l66 => unc l66 fun v67 l68 => asI .u8 v67 fun n69 => unc l68 fun v70 l71 => asS v70 fun l72 => unc l71 fun
 v73 l74 => asI .i64 v73 fun n75 => unc l74 fun v76 l77 => un0 l77 (callS (orc vE) 11 [AV.agg [AV.int .u8 n69, AV.str l72, AV.int .i64 n75, v76]] st55 fun v78 st79 _x => unA v78 fun l82 => unc l82 fun v83 l84 => asI .u8
 v83 fun n85 => unc l84 fun v86 l87 => asS v86 fun l88 => unc l87 fun v89 l90 => asI .i64 v89 fun n91 => unc l90 fun v92 l93 => un0 l93 (callS (orc vE) 10 [AV.agg [AV.int .u8 n85, AV.str l88, AV.int .i64 n91, v92],
 AV.int .i64 (IntKind.wrap .i64 (1 + (IntKind.wrap .i64 (Int.tmod (IntKind.wrap .u64 n0) 200))))] st79 fun v94 st95 _x => unT v94 fun l97 => nthS l97 0 fun v98 => asS v98 fun l99 => unT v94 fun l100 => nthS l100 1 fun v101 => asI .i64 v101 fun n102 => bindO (ifB (!b62) (some ([AV.bool true], st95))
 (callS (orc vE) 22 [AV.str l59] st95 fun v103 st104 _x => asI .i64 v103 fun n106 => some ([AV.bool (decide (n106 > (IntKind.wrap .i64 (1 + (IntKind.wrap .i64 (Int.tmod (IntKind.wrap .u64 n0) 200))))))], st104))) fun c107 => unc (Prod.fst c107) fun v108 l109 => asB v108 fun b110 => un0 l109 (ifB
 b110 (some (AV.bool true)) (bindO (ifB (n102 == 0) (some ([AV.bool (l59 == l99)], Prod.snd c107)) (some ([AV.bool false], Prod.snd c107))) fun c111 => unc (Prod.fst c111) fun v112 l113 => asB v112 fun b114 => un0 l113
 (some (AV.bool b114))))))))))))
theorem g6_eq (x0 x1 : AV) : bareS vE 6 [x0, x1] = g6 x0 x1 := by kernel_rfl
end Go.Proofs.YteajphhelkdjnaaDoor.Vm
/- LayoutOne: a Group that fits is written flat. -/
set_option maxRecDepth 100000
set_option linter.unusedSimpArgs false
namespace Go.Proofs.YteajphhelkdjnaaDoor.Vm
open Go Go.VM Go.Proofs

/-- The flat text of layouts. -/
def flF : Nat → List Doc → List UInt8
  | 0, _ => []
  | _ + 1, [] => []
  | n + 1, .mk k s _ kids :: l =>
    if k = 1 then s ++ flF n l
    else if k = 5 ∨ k = 6 ∨ k = 7 then flF n (kids ++ l)
    else if k = 2 then 32 :: flF n l
    else flF n l
theorem kidsT_fst (ks : List Doc) (i : Int) (f : Bool) (l : List Todo) : (kidsT ks i f ++ l).map (·.1) = ks ++ l.map (·.1) := by
  simp only [kidsT, List.map_append, List.map_map]
  congr 1
  induction ks with
  | nil => rfl
  | cons d ks ih => simpa using ih
theorem hardDs_append (a b : List Doc) : hardDs (a ++ b) = (hardDs a || hardDs b) := by
  induction a with
  | nil => rfl
  | cons d a ih => simp only [List.cons_append, hardDs, ih, Bool.or_assoc]
theorem layF_fl (w : Int) : ∀ (n : Nat) (l : List Todo) (c : Int), flatT l → hardDs (l.map (·.1)) = false → layF w n l c = flF n (l.map (·.1))
  | 0, _, _, _, _ => rfl
  | _ + 1, [], _, _, _ => rfl
  | n + 1, (.mk k s m kids, i, f) :: l, c, h, hh => by
    have hf : f = true := h _ (List.mem_cons_self)
    subst hf
    have hl : flatT l := fun t ht => h t (List.mem_cons_of_mem _ ht)
    simp only [List.map_cons, hardDs, hardD, Bool.or_eq_false_iff, beq_eq_false_iff_ne] at hh
    obtain ⟨⟨k4, hk⟩, hls⟩ := hh
    have hkl : ∀ j, hardDs ((kidsT kids j true ++ l).map (·.1)) = false := fun j => by rw [kidsT_fst, hardDs_append, hk, hls]; rfl
    have ih1 := fun c => layF_fl w n l c hl hls
    have ih2 := fun j c => layF_fl w n (kidsT kids j true ++ l) c (flatT_kids hl) (hkl j)
    simp only [List.map_cons, layF, flF, Bool.true_or, ih1, ih2, kidsT_fst]
    by_cases k1 : k = 1
    · simp only [if_pos k1]
    rw [if_neg k1, if_neg k1]
    by_cases k5 : k = 5
    · simp only [if_pos k5, if_pos (show k = 5 ∨ k = 6 ∨ k = 7 from .inl k5)]
    by_cases k6 : k = 6
    · simp only [if_neg k5, if_pos k6, if_pos (show k = 5 ∨ k = 6 ∨ k = 7 from .inr (.inl k6))]
    by_cases k7 : k = 7
    · simp only [if_neg k5, if_neg k6, if_pos k7, if_pos (show k = 5 ∨ k = 6 ∨ k = 7 from .inr (.inr k7))]
    rw [if_neg k5, if_neg k6, if_neg k7, if_neg (show ¬ (k = 5 ∨ k = 6 ∨ k = 7) from by omega), if_pos (show True ∧ k ≠ 4 from ⟨trivial, k4⟩)]
theorem mayT_fst {l : List Todo} (h : mayT l = true) : mayDs (l.map (·.1)) = true := by
  induction l with
  | nil => rfl
  | cons t l ih =>
    simp only [mayT, Bool.and_eq_true] at h
    simp only [List.map_cons, mayDs, h.1, ih h.2, Bool.and_self]
theorem fit_fl (w : Int) : ∀ (n : Nat) (l : List Todo) (c : Int), flatT l → hardDs (l.map (·.1)) = false → mayT l = true → c + chars (flF n (l.map (·.1))) ≤ w → fitF w n l c = true
  | 0, l, c, _, _, _, hc => by
    simp only [flF, chars, List.countP_nil] at hc
    simp only [fitF]; exact decide_eq_true (by omega)
  | _ + 1, [], c, _, _, _, hc => by
    simp only [List.map_nil, flF, chars, List.countP_nil] at hc
    simp only [fitF]; exact decide_eq_true (by omega)
  | n + 1, (.mk k s m kids, i, f) :: l, c, h, hh, hm, hc => by
    have hf : f = true := h _ (List.mem_cons_self)
    subst hf
    have hl : flatT l := fun t ht => h t (List.mem_cons_of_mem _ ht)
    simp only [List.map_cons, hardDs, hardD, Bool.or_eq_false_iff, beq_eq_false_iff_ne] at hh
    obtain ⟨⟨k4, hk⟩, hls⟩ := hh
    simp only [mayT, mayD, Bool.and_eq_true] at hm
    obtain ⟨⟨hok, hks⟩, hml⟩ := hm
    have hnok := okD_nok hok
    simp only [nokD, Bool.or_eq_true, Bool.and_eq_true, beq_iff_eq, decide_eq_true_eq] at hnok
    have hkl : hardDs ((kidsT kids i true ++ l).map (·.1)) = false := by rw [kidsT_fst, hardDs_append, hk, hls]; rfl
    have hcw : ¬ c > w := by omega
    simp only [List.map_cons, flF] at hc
    simp only [fitF, if_neg hcw, Bool.true_or]
    by_cases k1 : k = 1
    · rw [if_pos k1, chars_append] at hc
      rw [if_pos k1]
      exact fit_fl w n l _ hl hls hml (by omega)
    rw [if_neg k1] at hc ⊢
    by_cases k5 : k = 5 ∨ k = 6 ∨ k = 7
    · rw [if_pos k5] at hc
      rw [if_neg (show ¬ (k = 2 ∨ k = 3) from by omega), if_neg k4]
      exact fit_fl w n _ _ (flatT_kids hl) hkl (mayT_kids hks hml) (by rw [kidsT_fst]; exact hc)
    rw [if_neg k5] at hc
    have k23 : k = 2 ∨ k = 3 := by omega
    rw [if_pos k23, if_neg (by simp)]
    by_cases k2 : k = 2
    · rw [if_pos k2] at hc
      have e : chars (32 :: flF n (l.map (·.1))) = 1 + chars (flF n (l.map (·.1))) := by
        simp [chars, List.countP_cons, isHead, Nat.add_comm]
      rw [e] at hc
      rw [if_pos k2]
      exact fit_fl w n l _ hl hls hml (by omega)
    · rw [if_neg k2] at hc ⊢
      exact fit_fl w n l _ hl hls hml (by omega)
theorem flF_len : ∀ (n : Nat) (l : List Doc), (flF n l).length ≤ txtDs l + n
  | 0, _ => by simp [flF]
  | _ + 1, [] => by simp [flF]
  | n + 1, .mk k s j kids :: l => by
    have h1 := flF_len n l
    have h2 := flF_len n (kids ++ l)
    have ca : txtDs (kids ++ l) = txtDs kids + txtDs l := by
      clear h1 h2
      induction kids with
      | nil => simp [txtDs]
      | cons d ks ih => simp only [List.cons_append, txtDs, ih]; omega
    simp only [txtDs, txtD, flF]
    split
    · rw [List.length_append]; omega
    · split
      · omega
      · split
        · simp only [List.length_cons]; omega
        · omega
theorem flat_len (d : Doc) (h1 : cntD d ≤ 2000) (h2 : txtD d ≤ 100000) : (flatD d).1.length ≤ 200000 := by
  unfold flatD
  by_cases hb : mayD d = false ∨ hardD d = true
  · rw [if_pos hb]; simp
  · rw [if_neg hb]
    have hh : hardD d = false := by
      cases h : hardD d
      · rfl
      · exact absurd (.inr h) hb
    have := layF_fl 1 (cntD d) [(d, 0, true)] 0 (by intro t ht; simp at ht; subst ht; rfl) (by simp [hardDs, hh])
    show (layF 1 (cntD d) [(d, 0, true)] 0).length ≤ _
    rw [this]
    have := flF_len (cntD d) ([(d, (0 : Int), true)].map (·.1))
    simp only [List.map_cons, List.map_nil, txtDs] at this
    simp only [List.map_cons, List.map_nil]
    omega
/-- So the flat text's fuel may be more. -/
theorem flF_fuel : ∀ (n m : Nat) (l : List Doc), cntDs l ≤ n → cntDs l ≤ m → flF n l = flF m l
  | 0, 0, _, _, _ => rfl
  | 0, m + 1, [], _, _ => rfl
  | n + 1, 0, [], _, _ => rfl
  | n + 1, m + 1, [], _, _ => rfl
  | 0, _, d :: l, h, _ => by have := cnt_pos d; simp only [cntDs] at h; omega
  | _ + 1, 0, d :: l, _, h => by have := cnt_pos d; simp only [cntDs] at h; omega
  | n + 1, m + 1, .mk k s j kids :: l, hn, hm => by
    simp only [cntDs, cntD] at hn hm
    have ca : cntDs (kids ++ l) = cntDs kids + cntDs l := by
      clear hn hm
      induction kids with
      | nil => simp [cntDs]
      | cons d ks ih => simp only [List.cons_append, cntDs, ih]; omega
    simp only [flF, flF_fuel n m l (by omega) (by omega), flF_fuel n m (kids ++ l) (by omega) (by omega)]
theorem one_flat {kids : List Doc} {w : Int} (hm : mayD (.mk 6 [] 0 kids) = true) (hh : hardD (.mk 6 [] 0 kids) = false) (hc : (chars (layF 1 (cntD (.mk 6 [] 0 kids)) [(.mk 6 [] 0 kids, 0, true)] 0) : Int) ≤ w) :
    layF w (cntD (.mk 6 [] 0 kids)) [(.mk 6 [] 0 kids, 0, false)] 0 = layF 1 (cntD (.mk 6 [] 0 kids)) [(.mk 6 [] 0 kids, 0, true)] 0 := by
  obtain ⟨n, hn⟩ : ∃ n, cntD (.mk 6 [] 0 kids) = n + 1 := ⟨cntDs kids, by simp [cntD]; omega⟩
  have hn' : n = cntDs kids := by simp only [cntD] at hn; omega
  rw [hn] at hc ⊢
  have hhk : hardDs kids = false := by
    simp only [hardD, Bool.or_eq_false_iff] at hh; exact hh.2
  have hks : mayDs kids = true := by
    simp only [mayD, Bool.and_eq_true] at hm; exact hm.2
  have hft : flatT (kidsT kids 0 true ++ []) := flatT_kids (fun t ht => by cases ht)
  have hfst : (kidsT kids 0 true ++ []).map (fun t : Todo => t.1) = kids := by rw [kidsT_fst]; simp
  have e1 : layF 1 (n + 1) [(.mk 6 [] 0 kids, 0, true)] 0 = flF n kids := by
    have : layF 1 (n + 1) [(.mk 6 [] 0 kids, 0, true)] 0 = layF 1 n (kidsT kids 0 true ++ []) 0 := by simp only [layF, Bool.true_or]; rfl
    rw [this, layF_fl 1 n _ 0 hft (by rw [hfst]; exact hhk), hfst]
  rw [e1] at hc ⊢
  have hfit : fitF w (msr (kidsT kids 0 true ++ [])) (kidsT kids 0 true ++ []) 0 = true := by
    refine fit_fl w _ _ 0 hft (by rw [hfst]; exact hhk) (mayT_kids hks rfl) ?_
    rw [hfst, msr_kids, flF_fuel (cntDs kids + msr []) n kids (by simp [msr]) (by omega)]
    omega
  have e2 : layF w (n + 1) [(.mk 6 [] 0 kids, 0, false)] 0 = layF w n (kidsT kids 0 (false || (!hardD (.mk 6 [] 0 kids) && fitF w (msr (kidsT kids 0 true ++ [])) (kidsT kids 0 true ++ []) 0)) ++ []) 0 := by simp only [layF]; rfl
  rw [e2, hh, hfit]
  show layF w n (kidsT kids 0 true ++ []) 0 = _
  rw [layF_fl w n _ 0 hft (by rw [hfst]; exact hhk), hfst]
/-- A number within 1 and 200. -/
theorem width_of (n : Int) : ∃ w : Int, 1 ≤ w ∧ w ≤ 200 ∧ IntKind.wrap .i64 (1 + IntKind.wrap .i64 (Int.tmod (IntKind.wrap .u64 n) 200)) = w := by
  have hu : 0 ≤ IntKind.wrap .u64 n := by
    show 0 ≤ (if (false && decide (n % (2 ^ 64 : Int) ≥ (2 ^ 63 : Int))) = true then n % (2 ^ 64 : Int) - (2 ^ 64 : Int) else n % (2 ^ 64 : Int))
    simp only [Bool.false_and, Bool.false_eq_true, if_false]
    omega
  have ht : Int.tmod (IntKind.wrap .u64 n) 200 = IntKind.wrap .u64 n % 200 := Int.tmod_eq_emod_of_nonneg hu
  have h1 : IntKind.wrap .i64 (IntKind.wrap .u64 n % 200) = IntKind.wrap .u64 n % 200 := wrap_i64 (by omega) (by omega)
  have h2 : IntKind.wrap .i64 (1 + IntKind.wrap .u64 n % 200) = 1 + IntKind.wrap .u64 n % 200 := wrap_i64 (by omega) (by omega)
  exact ⟨1 + IntKind.wrap .u64 n % 200, by omega, by omega, by rw [ht, h1, h2]⟩
theorem law_one {kids : List Doc} {x : AV} {es : List AV} (hx : IsSl 4 x es) (hk : IsDocs kids es) (n : Int) : (orc vE).bare 6 [x, .int .i64 n] = some (.bool true) := by
  refine bare_of rfl ((g6_eq _ _).trans ?_)
  have hv : IsDoc (.mk 6 [] 0 kids) (.agg [.int .u8 6, .str [], .int .i64 0, x]) := ⟨x, es, rfl, by omega, by simp, by omega, hx, hk⟩
  obtain ⟨r, hparts, hr⟩ := call_parts hv 400 (by omega)
  have hparts : ∀ {β : Type} (st : St) (K : Kv β), callS (orc vE) 8 [.agg [.int .u8 6, .str [], .int .i64 0, x], .int .i64 400] st K = K (.int .i64 (r : Int)) st q0 := fun st K => hparts st K
  by_cases hge : (r : Int) ≥ 400
  · simp only [g6, asI_int, hx.asOne, hparts, ifB_decide, if_pos hge, bindO_ok, unc_cons, asB_bool, un0_nil, ifB_true, call_awake]
  have hc := hr (by omega)
  have hcc := cnt_cost (.mk 6 [] 0 kids)
  have b1 : cntD (.mk 6 [] 0 kids) ≤ 2000 := by omega
  have b2 : txtD (.mk 6 [] 0 kids) ≤ 100000 := by omega
  obtain ⟨v', hv', hgiven⟩ := call_given hv (by omega)
  obtain ⟨w, hw1, hw2, hw⟩ := width_of n
  have h10 := fun {β : Type} (st : St) (K : Kv β) => call_show hv' w b1 b2 st K
  have h13 : ∀ {β : Type} (st : St) (K : Kv β), callS (orc vE) 13 [v'] st K = K (.tup [.str (flatD (.mk 6 [] 0 kids)).1, .bool (flatD (.mk 6 [] 0 kids)).2]) st q0 := fun st K => call1 st rfl hv'.bare (flat_prog hv' b1 b2) K
  have hg0 : (St.mk 1 0 (Tr.node (some (VM.Obj.cells 24 [AV.int .u8 6, AV.str [], AV.int .i64 0, x])) Tr.leaf Tr.leaf)).get 0 = .ok (.cells 24 [AV.int .u8 6, AV.str [], AV.int .i64 0, x]) := rfl
  have ld := fun {β : Type} (K : AV → List Nat → Option β) => loadS_mp hg0 4 true 0 K
  have ht4 : takeO 4 true [AV.int .u8 6, AV.str [], AV.int .i64 0, x] = some (.agg [AV.int .u8 6, AV.str [], AV.int .i64 0, x]) := rfl
  have hlen : (flatD (.mk 6 [] 0 kids)).1.length ≤ 9223372036854775807 := by
    have := flat_len (.mk 6 [] 0 kids) b1 b2
    omega
  have h22 : ∀ {β : Type} (st : St) (K : Kv β), callS (orc vE) 22 [.str (flatD (.mk 6 [] 0 kids)).1] st K = K (.int .i64 (chars (flatD (.mk 6 [] 0 kids)).1 : Int)) st q0 := fun st K => callS_bare st K rfl rfl rfl (chars_ref _ hlen)
  obtain ⟨y, es', rfl, _, _, _, hy, _⟩ := hv'
  simp only [g6, asI_int, hx.asOne, hparts, ifB_decide, if_neg hge, call_awake, bindO_ok, unc_cons, asB_bool, un0_nil, Bool.not_true, ifB_false, hw, ld, List.drop_zero, ht4, unA_agg, asS_str, hgiven, h13, unT_tup, nthS_zero, nthS_one, h10, h22]
  cases hfl : (flatD (.mk 6 [] 0 kids)).2 with
  | false => simp only [Bool.not_false, ifB_true, bindO_ok, unc_cons, asB_bool, un0_nil]
  | true =>
    by_cases hgt : (chars (flatD (.mk 6 [] 0 kids)).1 : Int) > w
    · simp only [Bool.not_true, ifB_false, bindO_ok, unc_cons, asB_bool, un0_nil, ifB_decide, if_pos hgt]
    · have hm : mayD (.mk 6 [] 0 kids) = true := by
        unfold flatD at hfl
        by_cases hb : mayD (.mk 6 [] 0 kids) = false ∨ hardD (.mk 6 [] 0 kids) = true
        · rw [if_pos hb] at hfl; cases hfl
        · cases h : mayD (.mk 6 [] 0 kids)
          · exact absurd (.inl h) hb
          · rfl
      have hh : hardD (.mk 6 [] 0 kids) = false := by
        unfold flatD at hfl
        by_cases hb : mayD (.mk 6 [] 0 kids) = false ∨ hardD (.mk 6 [] 0 kids) = true
        · rw [if_pos hb] at hfl; cases hfl
        · cases h : hardD (.mk 6 [] 0 kids)
          · rfl
          · exact absurd (.inr h) hb
      have hf1 : (flatD (.mk 6 [] 0 kids)).1 = layF 1 (cntD (.mk 6 [] 0 kids)) [(.mk 6 [] 0 kids, 0, true)] 0 := by
        unfold flatD
        rw [if_neg (by rw [hm, hh]; simp)]
      have hs : showD (.mk 6 [] 0 kids) w = ((flatD (.mk 6 [] 0 kids)).1, 0) := by
        unfold showD
        rw [if_neg (by omega), if_neg (by rw [hm]; simp), one_flat hm hh (by rw [hf1] at hgt; omega), hf1]
      simp only [Bool.not_true, ifB_false, bindO_ok, unc_cons, asB_bool, un0_nil, ifB_decide, if_neg hgt, hs, ifB_beq, if_true, beq_self_eq_true, ifB_true]
end Go.Proofs.YteajphhelkdjnaaDoor.Vm
