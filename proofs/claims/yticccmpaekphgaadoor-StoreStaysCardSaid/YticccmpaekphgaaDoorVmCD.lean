/-
  (A part of the proof: StoreG, StoreI, StoreH, StoreWk, FL4, StoreJ, FL3, StoreParts, StoreStays, StoreArg.)
-/
import Derived.Test.YticccmpaekphgaaDoorVmCC
import Derived.Test.YticccmpaekphgaaDoorVmAJ
import Derived.Test.YticccmpaekphgaaDoorVmAI
import Derived.Test.YticccmpaekphgaaDoorVmBI
/- The laws' own functions: large, given, last. -/
set_option maxRecDepth 100000
set_option linter.unusedSimpArgs false
namespace Go.Proofs.YticccmpaekphgaaDoor.Vm
open Go Go.VM Go.Proofs Go.Store Go.Lib T

structure Stp where
  kind : Int
  name : B
  no : Int
  text : B
  cs : List Chg
def StpV (s : Stp) (e : AV) : Prop := ∃ v, IsSl 6 v (s.cs.map chgV) ∧ e = .agg [.int .u8 s.kind, .str s.name, .int .i64 s.no, .str s.text, v]
def StpsV : List Stp → List AV → Prop
  | [], [] => True
  | s :: l, e :: es => StpV s e ∧ StpsV l es
  | _, _ => False
theorem stps_at : ∀ {l : List Stp} {es : List AV}, StpsV l es → ∀ {i : Nat} {s : Stp}, l[i]? = some s → ∃ e, es[i]? = some e ∧ StpV s e
  | s :: l, e :: es, h, 0, s', hs => by
    simp only [List.getElem?_cons_zero, Option.some.injEq] at hs
    subst hs
    exact ⟨e, rfl, h.1⟩
  | s :: l, e :: es, h, i + 1, s', hs => by
    obtain ⟨e', h1, h2⟩ := stps_at h.2 (show l[i]? = some s' by simpa using hs)
    exact ⟨e', by simpa using h1, h2⟩
  | [], _, _, i, _, hs => by simp at hs
  | _ :: _, [], h, _, _, _ => by cases h
theorem stps_len : ∀ {l : List Stp} {es : List AV}, StpsV l es → es.length = l.length
  | [], [], _ => rfl
  | _ :: l, _ :: es, h => by rw [List.length_cons, List.length_cons, stps_len h.2]
  | [], _ :: _, h => by cases h
  | _ :: _, [], h => by cases h
def inN : Nat → List Chg → Nat
  | n, [] => n
  | n, c :: l => if n < 3000 then inN (n + 1 + min c.text.length 3000) l else n
def outN : Nat → List Stp → Option Nat
  | n, [] => some n
  | n, s :: l => if n < 3000 then (if 3000 < s.text.length ∨ 3000 < s.name.length then none else outN (inN (n + 1 + s.text.length + s.name.length) s.cs) l) else some n
def largeS (ss : List Stp) : Bool := match outN 0 ss with
  | none => true
  | some n => decide (3000 ≤ n) || decide (60 < ss.length)
theorem inN_le : ∀ (l : List Chg) (n : Nat), n ≤ 10000 → inN n l ≤ 10000
  | [], n, h => h
  | c :: l, n, h => by
    unfold inN
    split
    · exact inN_le l _ (by omega)
    · exact h
theorem inN_ge : ∀ (l : List Chg) (n : Nat), n ≤ inN n l
  | [], n => Nat.le_refl _
  | c :: l, n => by
    unfold inN
    split
    · have := inN_ge l (n + 1 + min c.text.length 3000); omega
    · exact Nat.le_refl _
theorem inN_small : ∀ {l : List Chg} {n : Nat}, inN n l < 3000 → (∀ c ∈ l, c.text.length < 3000) ∧ n + l.length ≤ inN n l
  | [], n, h => ⟨fun _ hc => (by cases hc), Nat.le_refl _⟩
  | c :: l, n, h => by
    unfold inN at h ⊢
    by_cases hn : n < 3000
    · rw [if_pos hn] at h ⊢
      obtain ⟨h1, h2⟩ := inN_small h
      have := inN_ge l (n + 1 + min c.text.length 3000)
      refine ⟨fun d hd => ?_, by rw [List.length_cons]; omega⟩
      rcases List.mem_cons.1 hd with rfl | hd
      · omega
      · exact h1 d hd
    · rw [if_neg hn] at h; omega
theorem outN_small : ∀ {l : List Stp} {n k : Nat}, outN n l = some k → k < 3000 → ∀ s ∈ l, s.text.length ≤ 3000 ∧ s.name.length ≤ 3000 ∧ s.cs.length < 3000 ∧ ∀ c ∈ s.cs, c.text.length < 3000
  | [], _, _, _, _, _, hs => by cases hs
  | s :: l, n, k, h, hk, u, hu => by
    have big : ∀ {l : List Stp} {n k : Nat}, outN n l = some k → n ≤ k := by
      intro l
      induction l with
      | nil => intro n k h; unfold outN at h; cases h; exact Nat.le_refl _
      | cons s l ih =>
        intro n k h
        unfold outN at h
        split at h
        · split at h
          · cases h
          · have h1 := ih h
            have h2 := inN_ge s.cs (n + 1 + s.text.length + s.name.length)
            omega
        · cases h; exact Nat.le_refl _
    unfold outN at h
    split at h
    · split at h
      · cases h
      · rename_i hg
        rw [not_or] at hg
        have hb := big h
        obtain ⟨h1, h2⟩ := inN_small (show inN (n + 1 + s.text.length + s.name.length) s.cs < 3000 by omega)
        rcases List.mem_cons.1 hu with rfl | hu
        · exact ⟨by omega, by omega, by omega, h1⟩
        · exact outN_small h hk u hu
    · cases h; omega
theorem largeS_small {ss : List Stp} (h : largeS ss = false) : ss.length ≤ 60 ∧ ∀ s ∈ ss, s.text.length ≤ 3000 ∧ s.name.length ≤ 3000 ∧ s.cs.length < 3000 ∧ ∀ c ∈ s.cs, c.text.length < 3000 := by
  unfold largeS at h
  cases ho : outN 0 ss with
  | none => rw [ho] at h; cases h
  | some k =>
    rw [ho] at h
    simp only [Bool.or_eq_false_iff, decide_eq_false_iff_not] at h
    exact ⟨by omega, outN_small ho (by omega)⟩
section
variable {x : AV} {es : List AV} {ss : List Stp}
theorem tk1 {β : Type} (v : AV) (l : List AV) (K : AV → Option β) : bindO (takeO 1 false (v :: l)) K = K v := rfl
theorem in_loop (hx : IsSl 5 x es) {i : Nat} {s : Stp} {v : AV} (hg : es[i]? = some (.agg [.int .u8 s.kind, .str s.name, .int .i64 s.no, .str s.text, v])) (hv : IsSl 6 v (s.cs.map chgV)) (st : St) : ∀ (m : List Chg) (k n : Nat), s.cs.drop k = m → n ≤ 10000 →
    ∃ k', loopO (g8_L1 x (i : Int)) ([.int .i64 (n : Int), .int .i64 (k : Int)], st) = some (k', [.int .i64 (inN n m : Int)], st)
  | [], k, n, hd, hn => by
    have := List.drop_eq_nil_iff.1 hd
    have q : ¬ (k : Int) < (s.cs.length : Int) := by omega
    have ix : ∀ {β : Type} (K : AV → List Nat → Option β), idxA 5 x (i : Int) st K = K (.ip [.int .u8 s.kind, .str s.name, .int .i64 s.no, .str s.text, v]) [] := fun K => hx.idx hg st K
    have hl : ∀ {β : Type} (K : Nat → Option β), lenS v K = K s.cs.length := fun K => by rw [hv.len, List.length_map]
    refine ⟨0, loopO_inr ?_⟩
    simp only [g8_L1, unc_cons, asI_int, un0_nil, ix, fldA_ip, drop4, loadS_ip, tk1, hl, ifB_decide, if_neg q, bindO_ok, asB_bool, ifB_false, inN]
  | c :: m, k, n, hd, hn => by
    obtain ⟨hgt, hdr, hlt⟩ := drop_cons hd
    have q : (k : Int) < (s.cs.length : Int) := by omega
    have ix : ∀ {β : Type} (K : AV → List Nat → Option β), idxA 5 x (i : Int) st K = K (.ip [.int .u8 s.kind, .str s.name, .int .i64 s.no, .str s.text, v]) [] := fun K => hx.idx hg st K
    have hl : ∀ {β : Type} (K : Nat → Option β), lenS v K = K s.cs.length := fun K => by rw [hv.len, List.length_map]
    have hg2 : (s.cs.map chgV)[k]? = some (chgV c) := by rw [List.getElem?_map, hgt]; rfl
    have ix2 : ∀ {β : Type} (K : AV → List Nat → Option β), idxA 6 v (k : Int) st K = K (.ip [.bool c.whole, .int .i64 c.l1, .int .i64 c.c1, .int .i64 c.l2, .int .i64 c.c2, .str c.text]) [] := fun K => hv.idx hg2 st K
    unfold inN
    by_cases hlt3 : n < 3000
    · rw [if_pos hlt3]
      have q2 : (n : Int) < 3000 := by omega
      have hm : (if (3000 : Int) < (c.text.length : Int) then (3000 : Int) else (c.text.length : Int)) = ((min c.text.length 3000 : Nat) : Int) := by split <;> omega
      have w1 : IntKind.wrap .i64 ((n : Int) + 1) = ((n + 1 : Nat) : Int) := wrapA1 (by omega)
      have w2 : IntKind.wrap .i64 (((n + 1 : Nat) : Int) + ((min c.text.length 3000 : Nat) : Int)) = ((n + 1 + min c.text.length 3000 : Nat) : Int) := wrapA (by omega)
      have w3 : IntKind.wrap .i64 ((k : Int) + 1) = ((k + 1 : Nat) : Int) := wrapA1 (by
        have := hv.1; rw [List.length_map] at this; omega)
      obtain ⟨k', e⟩ := in_loop hx hg hv st m (k + 1) (n + 1 + min c.text.length 3000) hdr (by omega)
      refine ⟨k', (loopO_inl ?_).trans e⟩
      simp only [g8_L1, unc_cons, asI_int, un0_nil, ix, ix2, fldA_ip, drop4, drop5, loadS_ip, tk1, hl, ifB_decide, if_pos q, bindO_ok, asB_bool, if_pos q2, ifB_true, letV_eq, w1, asS_str, hm, w2, w3]
    · rw [if_neg hlt3]
      have q2 : ¬ (n : Int) < 3000 := by omega
      refine ⟨0, loopO_inr ?_⟩
      simp only [g8_L1, unc_cons, asI_int, un0_nil, ix, fldA_ip, drop4, loadS_ip, tk1, hl, ifB_decide, if_pos q, bindO_ok, asB_bool, if_neg q2, ifB_false]
theorem out_loop (hx : IsSl 5 x es) (hs : StpsV ss es) (st : St) : ∀ (m : List Stp) (i n : Nat), ss.drop i = m → n ≤ 10000 →
    ∃ r b k, loopO (g8_L2 x) ([.bool false, .int .i64 (n : Int), .int .i64 (i : Int)], st) = some (r, [.bool b, .int .i64 (k : Int)], st) ∧ match outN n m with | none => r = 1 ∧ b = true | some j => r = 0 ∧ k = (j : Int)
  | [], i, n, hd, hn => by
    have := List.drop_eq_nil_iff.1 hd
    have hln := stps_len hs
    have q : ¬ (i : Int) < (es.length : Int) := by omega
    refine ⟨0, false, (n : Int), loopO_inr ?_, rfl, rfl⟩
    simp only [g8_L2, unc_cons, asI_int, asB_bool, un0_nil, hx.len, ifB_decide, if_neg q, bindO_ok, ifB_false]
  | s :: m, i, n, hd, hn => by
    obtain ⟨hgt, hdr, hlt⟩ := drop_cons hd
    have hln := stps_len hs
    have q : (i : Int) < (es.length : Int) := by omega
    obtain ⟨e, he, v, hv, rfl⟩ := stps_at hs hgt
    have ix : ∀ {β : Type} (K : AV → List Nat → Option β), idxA 5 x (i : Int) st K = K (.ip [.int .u8 s.kind, .str s.name, .int .i64 s.no, .str s.text, v]) [] := fun K => hx.idx he st K
    unfold outN
    by_cases hlt3 : n < 3000
    · rw [if_pos hlt3]
      have q2 : (n : Int) < 3000 := by omega
      by_cases h1 : 3000 < s.text.length
      · rw [if_pos (.inl h1)]
        have q3 : (s.text.length : Int) > 3000 := by omega
        refine ⟨1, true, (n : Int), loopO_inr ?_, rfl, rfl⟩
        simp only [g8_L2, unc_cons, asI_int, asB_bool, un0_nil, hx.len, ifB_decide, if_pos q, bindO_ok, if_pos q2, ifB_true, ix, fldA_ip, drop3, loadS_ip, tk1, asS_str, if_pos q3]
      · have q3 : ¬ (s.text.length : Int) > 3000 := by omega
        by_cases h2 : 3000 < s.name.length
        · rw [if_pos (.inr h2)]
          have q4 : (s.name.length : Int) > 3000 := by omega
          refine ⟨1, true, (n : Int), loopO_inr ?_, rfl, rfl⟩
          simp only [g8_L2, unc_cons, asI_int, asB_bool, un0_nil, hx.len, ifB_decide, if_pos q, bindO_ok, if_pos q2, ifB_true, ix, fldA_ip, drop3, drop1, loadS_ip, tk1, asS_str, if_neg q3, if_pos q4]
        · rw [if_neg (by omega)]
          have q4 : ¬ (s.name.length : Int) > 3000 := by omega
          have w1 : IntKind.wrap .i64 ((n : Int) + 1) = ((n + 1 : Nat) : Int) := wrapA1 (by omega)
          have w2 : IntKind.wrap .i64 (((n + 1 : Nat) : Int) + (s.text.length : Int)) = ((n + 1 + s.text.length : Nat) : Int) := wrapA (by omega)
          have w3 : IntKind.wrap .i64 (((n + 1 + s.text.length : Nat) : Int) + (s.name.length : Int)) = ((n + 1 + s.text.length + s.name.length : Nat) : Int) := wrapA (by omega)
          have w4 : IntKind.wrap .i64 ((i : Int) + 1) = ((i + 1 : Nat) : Int) := wrapA1 (by have := hx.1; omega)
          obtain ⟨k', e1⟩ := in_loop hx he hv st s.cs 0 (n + 1 + s.text.length + s.name.length) rfl (by omega)
          have e1 : loopO (g8_L1 x (i : Int)) ([.int .i64 ((n + 1 + s.text.length + s.name.length : Nat) : Int), .int .i64 0], st) = _ := e1
          obtain ⟨r, b, k, e2, hm⟩ := out_loop hx hs st m (i + 1) (inN (n + 1 + s.text.length + s.name.length) s.cs) hdr (inN_le _ _ (by omega))
          refine ⟨r, b, k, (loopO_inl ?_).trans e2, hm⟩
          simp only [g8_L2, unc_cons, asI_int, asB_bool, un0_nil, hx.len, ifB_decide, if_pos q, bindO_ok, if_pos q2, ifB_true, ix, fldA_ip, drop3, drop1, loadS_ip, tk1, asS_str, if_neg q3, if_neg q4, ifB_false, letV_eq, w1, w2, w3, e1, w4]
    · rw [if_neg hlt3]
      have q2 : ¬ (n : Int) < 3000 := by omega
      refine ⟨0, false, (n : Int), loopO_inr ?_, rfl, rfl⟩
      simp only [g8_L2, unc_cons, asI_int, asB_bool, un0_nil, hx.len, ifB_decide, if_pos q, bindO_ok, if_neg q2, ifB_false]
theorem large_ok (hx : IsSl 5 x es) (hs : StpsV ss es) : (orc vE).bare 8 [x] = some (.bool (largeS ss)) := by
  refine bare_of rfl ((g8_eq _).trans ?_)
  obtain ⟨r, b, k, e, hm⟩ := out_loop hx hs (St.mk 0 0 Tr.leaf) ss 0 0 rfl (by omega)
  have e : loopO (g8_L2 x) ([.bool false, .int .i64 0, .int .i64 0], St.mk 0 0 Tr.leaf) = _ := e
  have hln := stps_len hs
  unfold largeS
  cases ho : outN 0 ss with
  | none =>
    rw [ho] at hm
    obtain ⟨rfl, rfl⟩ := hm
    simp only [g8, e, bindO_ok, unc_cons, asB_bool, asI_int, un0_nil, sel2_one]
  | some j =>
    rw [ho] at hm
    obtain ⟨rfl, rfl⟩ := hm
    by_cases hj : 3000 ≤ j
    · have q : (j : Int) ≥ 3000 := by omega
      simp only [g8, e, bindO_ok, unc_cons, asB_bool, asI_int, un0_nil, sel2_zero, ifB_decide, if_pos q, decide_eq_true hj, Bool.true_or]
    · have q : ¬ (j : Int) ≥ 3000 := by omega
      have q2 : decide ((es.length : Int) > 60) = decide (60 < ss.length) := by
        rw [hln]; exact decide_eq_decide.2 (by omega)
      simp only [g8, e, bindO_ok, unc_cons, asB_bool, asI_int, un0_nil, sel2_zero, ifB_decide, if_neg q, decide_eq_false hj, Bool.false_or, hx.len, q2]
/-- given: the changes as they are handed in. -/
theorem given_loop {cs : List Chg} (hx : IsSl 6 x (cs.map chgV)) (hlen : cs.length ≤ 1000000) : ∀ (m : List Chg) (i : Nat) (out : List Chg) (v : AV) (st : St), cs.drop i = m → Own st 6 57 v (out.map chgV) → out.length + m.length ≤ 1000000 →
    ∃ v' st', loopO (g12_L1 x) ([v, .int .i64 (i : Int)], st) = some (0, [v'], st') ∧ Own st' 6 57 v' ((out ++ m).map chgV)
  | [], i, out, v, st, hd, ho, hl => by
    have := List.drop_eq_nil_iff.1 hd
    have q : ¬ (i : Int) < ((cs.map chgV).length : Int) := by rw [List.length_map]; omega
    refine ⟨v, st, loopO_inr ?_, by simpa using ho⟩
    simp only [g12_L1, unc_cons, asI_int, un0_nil, hx.len, ifB_decide, if_neg q]
  | c :: m, i, out, v, st, hd, ho, hl => by
    obtain ⟨hgt, hdr, hlt⟩ := drop_cons hd
    have q : (i : Int) < ((cs.map chgV).length : Int) := by rw [List.length_map]; omega
    have hg2 : (cs.map chgV)[i]? = some (chgV c) := by rw [List.getElem?_map, hgt]; rfl
    have ix : ∀ {β : Type} (K : AV → List Nat → Option β), idxA 6 x (i : Int) st K = K (.ip [.bool c.whole, .int .i64 c.l1, .int .i64 c.c1, .int .i64 c.l2, .int .i64 c.c2, .str c.text]) [] := fun K => hx.idx hg2 st K
    have tk4 : ∀ {β : Type} (a b c d e : AV) (K : AV → Option β), bindO (takeO 4 true [a, b, c, d, e]) K = K (.agg [a, b, c, d]) := fun _ _ _ _ _ _ => rfl
    have w1 : IntKind.wrap .i64 ((i : Int) + 1) = ((i + 1 : Nat) : Int) := wrapA1 (by omega)
    obtain ⟨v1, s1, x1, ho1, k1, j1, _, e1⟩ := own_fx (b := 56) [chgV c] ho fun _ => room_of (by
      simp only [List.length_map, List.length_cons, List.length_nil] at hl ⊢; omega) (by omega) (by omega)
    have e1 : ∀ {β : Type} (K : Kv β), appS 6 56 57 v [.agg [.bool c.whole, .int .i64 c.l1, .int .i64 c.c1, .int .i64 c.l2, .int .i64 c.c2, .str c.text]] st K = K v1 s1 x1 := fun K => e1 K
    obtain ⟨v', st', e, o2⟩ := given_loop hx hlen m (i + 1) (out ++ [c]) v1 s1 hdr (by simpa using ho1) (by simp only [List.length_append, List.length_cons, List.length_nil] at hl ⊢; omega)
    refine ⟨v', st', (loopO_inl ?_).trans e, by simpa using o2⟩
    simp only [g12_L1, unc_cons, asI_int, un0_nil, hx.len, ifB_decide, if_pos q, ix, fldA_ip, List.drop_zero, drop1, drop5, loadS_ip, tk1, tk4, asB_bool, asS_str, unA_agg, e1, letV_eq, w1]
theorem given_ok {cs : List Chg} (hx : IsSl 6 x (cs.map chgV)) (hlen : cs.length ≤ 1000000) : ∃ y, (orc vE).bare 12 [x] = some y ∧ IsSl 6 y (cs.map chgV) := by
  obtain ⟨v', st', e, ho⟩ := given_loop hx hlen cs 0 [] .nils (St.mk 0 0 Tr.leaf) rfl (Own.nils (Nat.le_refl _) _ _) (by simpa using hlen)
  have e : loopO (g12_L1 x) ([.nils, .int .i64 0], St.mk 0 0 Tr.leaf) = _ := e
  obtain ⟨y, hy, hf⟩ := frz_own (β := AV) ho
  refine ⟨y, bare_of rfl ((g12_eq _).trans ?_), hy⟩
  simp only [g12, e, bindO_ok, unc_cons, un0_nil, oneOf_one, hf]
theorem call_given {cs : List Chg} (hx : IsSl 6 x (cs.map chgV)) (hlen : cs.length ≤ 1000000) : ∃ y, IsSl 6 y (cs.map chgV) ∧ ∀ {β : Type} (st : St) (K : Kv β), callS (orc vE) 12 [x] st K = K y st q0 := by
  obtain ⟨y, e, hy⟩ := given_ok hx hlen
  exact ⟨y, hy, fun st K => callS_bare st K rfl (by simp only [List.map_cons, List.map_nil, hx.strip]) (by simp only [bares_cons, hx.bare]; rfl) e⟩
end
section
variable {st st' : St} {sp ow : Nat} {ds : List Dc}
end
end Go.Proofs.YticccmpaekphgaaDoor.Vm
/- Steps: what they make of a store, and what stays: plain Lean. -/
set_option linter.unusedSimpArgs false
namespace Go.Proofs.YticccmpaekphgaaDoor.Vm
open Go Go.VM Go.Proofs Go.Store Go.Lib T

def Dc.kept (d : Dc) : List (Int × T) := d.vs.drop (d.vs.length - 8)
def verF (no : Int) : List (Int × T) → Option T
  | [] => none
  | v :: l => if v.1 = no then some v.2 else verF no l
def docN' (nm : B) (ds : List Dc) : Option Dc := (findN nm ds 0).bind fun k => ds[k]?
def atT (ds : List Dc) (nm : B) (no : Int) : Option B := (docN' nm ds).bind fun d => (verF no d.kept).map T.text
structure DsOk (ds : List Dc) : Prop where
  ok : ∀ d ∈ ds, DcOk d
  len : ds.length ≤ 32
  apart : ds.Pairwise fun a b => a.nm ≠ b.nm
/-- A step, done. -/
inductive Does (ds : List Dc) (s : Stp) : Nat → List Dc → Prop where
  | no (e : Nat) (h : e ≠ 0) : Does ds s e ds
  | opened (t : T) (w : WF t) (hs : t.size ≤ 65536) (hf : findN s.name ds 0 = none) (hl : ds.length < 32) (hn : badN s.no = false) : Does ds s 0 (ds ++ [⟨s.name, [(s.no, t)]⟩])
  | changed (i : Nat) (d : Dc) (v : Int × T) (t : T) (hk : s.kind = 1) (w : WF t) (hs : t.size ≤ 65536) (hf : findN s.name ds 0 = some i) (hd : ds[i]? = some d) (hv : d.vs.getLast? = some v) (hlt : v.1 < s.no) (hn : badN s.no = false) : Does ds s 0 (ds.set i ⟨d.nm, d.vs ++ [(s.no, t)]⟩)
  | closed (i : Nat) (hk : s.kind = 2) (hf : findN s.name ds 0 = some i) : Does ds s 0 (ds.eraseIdx i)
theorem docN_nil (nm : B) : docN' nm [] = none := rfl
theorem findN_succ (nm : B) : ∀ (l : List Dc) (i : Nat), findN nm l (i + 1) = (findN nm l i).map (· + 1)
  | [], _ => rfl
  | d :: l, i => by
    unfold findN
    split
    · rfl
    · exact findN_succ nm l (i + 1)
theorem docN_cons (nm : B) (d : Dc) (l : List Dc) : docN' nm (d :: l) = if d.nm = nm then some d else docN' nm l := by
  unfold docN'
  show ((if d.nm = nm then some 0 else findN nm l 1).bind _) = _
  split
  · rfl
  · rw [findN_succ nm l 0]
    cases findN nm l 0 <;> rfl
theorem docN_mem {nm : B} : ∀ {l : List Dc} {d : Dc}, docN' nm l = some d → d ∈ l ∧ d.nm = nm
  | [], d, h => by rw [docN_nil] at h; cases h
  | c :: l, d, h => by
    rw [docN_cons] at h
    split at h
    · cases h; exact ⟨by simp, by assumption⟩
    · obtain ⟨h1, h2⟩ := docN_mem h
      exact ⟨List.mem_cons_of_mem _ h1, h2⟩
theorem docN_of {l : List Dc} (ha : l.Pairwise fun a b => a.nm ≠ b.nm) {d : Dc} (hd : d ∈ l) : docN' d.nm l = some d := by
  induction l with
  | nil => cases hd
  | cons c l ih =>
    rw [docN_cons]
    rcases List.mem_cons.1 hd with rfl | hd
    · rw [if_pos rfl]
    · rw [if_neg (List.rel_of_pairwise_cons ha hd), ih ha.tail hd]
theorem findN_none {nm : B} : ∀ {l : List Dc} {i : Nat}, findN nm l i = none → ∀ d ∈ l, d.nm ≠ nm
  | [], _, _, _, h => by cases h
  | c :: l, i, h, d, hd => by
    unfold findN at h
    split at h
    · cases h
    · rcases List.mem_cons.1 hd with rfl | hd
      · assumption
      · exact findN_none h d hd
theorem docN_app {nm : B} (x : Dc) : ∀ (l : List Dc), x.nm ≠ nm → docN' nm (l ++ [x]) = docN' nm l
  | [], h => by
    show docN' nm [x] = _
    rw [docN_cons, if_neg h]
  | c :: l, h => by
    show docN' nm (c :: (l ++ [x])) = _
    rw [docN_cons, docN_cons, docN_app x l h]
theorem docN_set {nm : B} (x : Dc) (h : x.nm ≠ nm) : ∀ (l : List Dc) (i : Nat) (d : Dc), l[i]? = some d → d.nm = x.nm → docN' nm (l.set i x) = docN' nm l
  | [], _, _, hd, _ => by simp at hd
  | c :: l, 0, d, hd, hn => by
    simp only [List.getElem?_cons_zero, Option.some.injEq] at hd
    subst hd
    show docN' nm (x :: l) = _
    rw [docN_cons, docN_cons, if_neg h, if_neg (by rw [hn]; exact h)]
  | c :: l, i + 1, d, hd, hn => by
    show docN' nm (c :: l.set i x) = _
    rw [docN_cons, docN_cons, docN_set x h l i d (by simpa using hd) hn]
theorem docN_erase {nm : B} : ∀ (l : List Dc) (i : Nat) (d : Dc), l[i]? = some d → d.nm ≠ nm → docN' nm (l.eraseIdx i) = docN' nm l
  | [], _, _, hd, _ => by simp at hd
  | c :: l, 0, d, hd, hn => by
    simp only [List.getElem?_cons_zero, Option.some.injEq] at hd
    subst hd
    show docN' nm l = _
    rw [docN_cons, if_neg hn]
  | c :: l, i + 1, d, hd, hn => by
    show docN' nm (c :: l.eraseIdx i) = _
    rw [docN_cons, docN_cons, docN_erase l i d (by simpa using hd) hn]
theorem docN_gone {nm : B} : ∀ (l : List Dc) (i : Nat) (d : Dc), (l.Pairwise fun a b => a.nm ≠ b.nm) → l[i]? = some d → d.nm = nm → docN' nm (l.eraseIdx i) = none
  | [], _, _, _, hd, _ => by simp at hd
  | c :: l, 0, d, ha, hd, hn => by
    simp only [List.getElem?_cons_zero, Option.some.injEq] at hd
    subst hd
    show docN' nm l = _
    cases h : docN' nm l with
    | none => rfl
    | some x =>
      obtain ⟨h1, h2⟩ := docN_mem h
      exact absurd (hn.trans h2.symm) (List.rel_of_pairwise_cons ha h1)
  | c :: l, i + 1, d, ha, hd, hn => by
    have hd : l[i]? = some d := by simpa using hd
    show docN' nm (c :: l.eraseIdx i) = _
    rw [docN_cons, docN_gone l i d ha.tail hd hn, if_neg]
    intro h
    exact List.rel_of_pairwise_cons ha (List.mem_of_getElem? hd) (h.trans hn.symm)
theorem docN_got {nm : B} (x : Dc) (h : x.nm = nm) : ∀ (l : List Dc) (i : Nat) (d : Dc), (l.Pairwise fun a b => a.nm ≠ b.nm) → l[i]? = some d → d.nm = nm → docN' nm (l.set i x) = some x
  | [], _, _, _, hd, _ => by simp at hd
  | c :: l, 0, d, ha, hd, hn => by
    show docN' nm (x :: l) = _
    rw [docN_cons, if_pos h]
  | c :: l, i + 1, d, ha, hd, hn => by
    have hd : l[i]? = some d := by simpa using hd
    show docN' nm (c :: l.set i x) = _
    rw [docN_cons, docN_got x h l i d ha.tail hd hn, if_neg]
    intro h
    exact List.rel_of_pairwise_cons ha (List.mem_of_getElem? hd) (h.trans hn.symm)
theorem find_doc {nm : B} {ds : List Dc} {i : Nat} (h : findN nm ds 0 = some i) : ∃ d, ds[i]? = some d ∧ d.nm = nm := by
  obtain ⟨_, d, hd, hn⟩ := findN_some h
  exact ⟨d, by simpa using hd, hn⟩
section
variable {ds ds' : List Dc} {s : Stp} {e : Nat}
theorem pair_erase {l : List Dc} (h : l.Pairwise fun a b => a.nm ≠ b.nm) (i : Nat) : (l.eraseIdx i).Pairwise fun a b => a.nm ≠ b.nm := h.sublist (List.eraseIdx_sublist l i)
theorem pair_set : ∀ {l : List Dc} (_ : l.Pairwise fun a b => a.nm ≠ b.nm) {i : Nat} {d x : Dc}, l[i]? = some d → x.nm = d.nm → (l.set i x).Pairwise fun a b => a.nm ≠ b.nm
  | [], _, _, _, _, hd, _ => by simp at hd
  | c :: l, h, 0, d, x, hd, hn => by
    simp only [List.getElem?_cons_zero, Option.some.injEq] at hd
    subst hd
    exact List.pairwise_cons.2 ⟨fun b hb => by rw [hn]; exact List.rel_of_pairwise_cons h hb, h.tail⟩
  | c :: l, h, i + 1, d, x, hd, hn => by
    have hd : l[i]? = some d := by simpa using hd
    refine List.pairwise_cons.2 ⟨fun b hb => ?_, pair_set h.tail hd hn⟩
    rcases List.mem_or_eq_of_mem_set hb with hb | rfl
    · exact List.rel_of_pairwise_cons h hb
    · rw [hn]; exact List.rel_of_pairwise_cons h (List.mem_of_getElem? hd)
theorem last_top : ∀ {l : List (Int × T)} {v : Int × T}, (l.Pairwise fun a b => a.1 < b.1) → l.getLast? = some v → ∀ u ∈ l, u.1 ≤ v.1
  | [], _, _, h, _, _ => by simp at h
  | [a], v, _, h, u, hu => by
    simp only [List.getLast?_singleton, Option.some.injEq] at h
    subst h
    rw [List.mem_singleton.1 hu]; exact Int.le_refl _
  | a :: b :: l, v, hp, h, u, hu => by
    have h : (b :: l).getLast? = some v := by simpa [List.getLast?_cons_cons] using h
    rcases List.mem_cons.1 hu with rfl | hu
    · have := List.rel_of_pairwise_cons hp (List.mem_of_getLast? h); omega
    · exact last_top hp.tail h u hu
theorem dc_app {d : Dc} (ok : DcOk d) {v : Int × T} (hv : d.vs.getLast? = some v) {no : Int} {t : T} (w : WF t) (hs : t.size ≤ 65536) (hlt : v.1 < no) (hn : badN no = false) : DcOk ⟨d.nm, d.vs ++ [(no, t)]⟩ := by
  refine ⟨by simp, ?_, ?_, ?_⟩
  · refine List.pairwise_append.2 ⟨ok.rise, List.pairwise_singleton _ _, fun a ha b hb => ?_⟩
    rw [List.mem_singleton.1 hb]
    have := last_top ok.rise hv a ha
    show a.1 < no
    omega
  · intro u hu
    rcases List.mem_append.1 hu with hu | hu
    · exact ok.nos u hu
    · rw [List.mem_singleton.1 hu]; exact badN_no hn
  · intro u hu
    rcases List.mem_append.1 hu with hu | hu
    · exact ok.wf u hu
    · rw [List.mem_singleton.1 hu]; exact ⟨w, hs⟩
theorem does_ok (h : DsOk ds) (hd : Does ds s e ds') : DsOk ds' := by
  cases hd with
  | no _ _ => exact h
  | opened t w hs hf hl hn =>
    refine ⟨fun d hd => ?_, by rw [List.length_append, List.length_singleton]; omega, List.pairwise_append.2 ⟨h.apart, List.pairwise_singleton _ _, fun a ha b hb => ?_⟩⟩
    · rcases List.mem_append.1 hd with hd | hd
      · exact h.ok d hd
      · rw [List.mem_singleton.1 hd]
        refine ⟨by simp, List.pairwise_singleton _ _, fun v hv => ?_, fun v hv => ?_⟩
        · rw [List.mem_singleton.1 hv]; exact badN_no hn
        · rw [List.mem_singleton.1 hv]; exact ⟨w, hs⟩
    · rw [List.mem_singleton.1 hb]; exact findN_none hf a ha
  | changed i d v t hk w hs hf hg hv hlt hn =>
    refine ⟨fun c hc => ?_, by rw [List.length_set]; exact h.len, pair_set h.apart hg rfl⟩
    rcases List.mem_or_eq_of_mem_set hc with hc | rfl
    · exact h.ok c hc
    · exact dc_app (h.ok d (List.mem_of_getElem? hg)) hv w hs hlt hn
  | closed i hk hf =>
    exact ⟨fun c hc => h.ok c (List.mem_of_mem_eraseIdx hc), Nat.le_trans (List.length_eraseIdx_le ds i) h.len, pair_erase h.apart i⟩
/-- What a step does not name stays. -/
theorem does_other (hd : Does ds s e ds') {nm : B} (hn : ¬ (nm = s.name ∧ e = 0)) : docN' nm ds' = docN' nm ds := by
  cases hd with
  | no _ _ => rfl
  | opened t w hs hf hl hb =>
    exact docN_app _ _ fun h => hn ⟨h.symm, rfl⟩
  | changed i d v t hk w hs hf hg hv hlt hb =>
    obtain ⟨d', hd', hnm⟩ := find_doc hf
    rw [hg] at hd'; cases hd'
    exact docN_set (⟨d.nm, d.vs ++ [(s.no, t)]⟩ : Dc) (fun h => hn ⟨(h.symm.trans hnm), rfl⟩) ds i d hg rfl
  | closed i hk hf =>
    obtain ⟨d', hd', hnm⟩ := find_doc hf
    exact docN_erase ds i d' hd' fun h => hn ⟨h.symm.trans hnm, rfl⟩
theorem does_gone (h : DsOk ds) (hd : Does ds s 0 ds') (hk : s.kind = 2) {nm : B} (hn : nm = s.name) (hin : docN' nm ds ≠ none) : docN' nm ds' = none := by
  subst hn
  generalize he : (0 : Nat) = e at hd
  cases hd with
  | no _ hne => omega
  | opened t w hs hf hl hb =>
    exact absurd (by unfold docN'; rw [hf]; rfl) hin
  | changed i d v t hk2 w hs hf hg hv hlt hb => omega
  | closed i hk hf =>
    obtain ⟨d', hd', hnm⟩ := find_doc hf
    exact docN_gone ds i d' h.apart hd' hnm
theorem verF_mem {no : Int} : ∀ {l : List (Int × T)} {t : T}, verF no l = some t → (no, t) ∈ l
  | [], _, h => by cases h
  | v :: l, t, h => by
    unfold verF at h
    split at h
    · rename_i hv
      cases h
      rw [← hv]; exact List.mem_cons_self
    · exact List.mem_cons_of_mem _ (verF_mem h)
theorem rise_one : ∀ {l : List (Int × T)}, (l.Pairwise fun a b => a.1 < b.1) → ∀ {n : Int} {t u : T}, (n, t) ∈ l → (n, u) ∈ l → t = u
  | [], _, _, _, _, h, _ => by cases h
  | v :: l, hp, n, t, u, h1, h2 => by
    rcases List.mem_cons.1 h1 with h1 | h1
    · rcases List.mem_cons.1 h2 with h2 | h2
      · rw [← h1] at h2; cases h2; rfl
      · have := List.rel_of_pairwise_cons hp h2
        rw [← h1] at this; exact absurd this (by simp)
    · rcases List.mem_cons.1 h2 with h2 | h2
      · have := List.rel_of_pairwise_cons hp h1
        rw [← h2] at this; exact absurd this (by simp)
      · exact rise_one hp.tail h1 h2
/-- A version that is kept has the text that it had. -/
theorem does_text (h : DsOk ds) (hd : Does ds s e ds') {nm : B} {no : Int} {x y : B} (h1 : atT ds nm no = some x) (h2 : atT ds' nm no = some y) : y = x := by
  by_cases hn : nm = s.name ∧ e = 0
  · obtain ⟨rfl, rfl⟩ := hn
    generalize he : (0 : Nat) = e at hd
    cases hd with
    | no _ hne => omega
    | opened t w hs hf hl hb =>
      unfold atT docN' at h1; rw [hf] at h1; cases h1
    | changed i d v t hk w hs hf hg hv hlt hb =>
      obtain ⟨d', hd', hnm⟩ := find_doc hf
      rw [hg] at hd'; cases hd'
      have e1 : docN' s.name ds = some d := by unfold docN'; rw [hf]; exact hg
      have e2 : docN' s.name (ds.set i ⟨d.nm, d.vs ++ [(s.no, t)]⟩) = some ⟨d.nm, d.vs ++ [(s.no, t)]⟩ := docN_got (⟨d.nm, d.vs ++ [(s.no, t)]⟩ : Dc) hnm ds i d h.apart hg hnm
      unfold atT at h1 h2
      rw [e1] at h1; rw [e2] at h2
      simp only [Option.bind_some, Option.map_eq_some_iff] at h1 h2
      obtain ⟨t1, m1, rfl⟩ := h1
      obtain ⟨t2, m2, rfl⟩ := h2
      have m1 := List.mem_of_mem_drop (verF_mem m1)
      have m2 := List.mem_of_mem_drop (verF_mem m2)
      have ok := dc_app (h.ok d (List.mem_of_getElem? hg)) hv w hs hlt hb
      rw [rise_one ok.rise m2 (List.mem_append_left _ m1)]
    | closed i hk hf =>
      obtain ⟨d', hd', hnm⟩ := find_doc hf
      unfold atT at h2
      rw [docN_gone ds i d' h.apart hd' hnm] at h2; cases h2
  · unfold atT at h1 h2
    rw [does_other hd hn, h1] at h2
    cases h2; rfl
theorem does_names (hd : Does ds s e ds') (he : e ≠ 0) : ds' = ds := by
  cases hd with
  | no _ _ => rfl
  | opened t w hs hf hl hb => exact absurd rfl he
  | changed i d v t hk w hs hf hg hv hlt hb => exact absurd rfl he
  | closed i hk hf => exact absurd rfl he
theorem kept_rise {d : Dc} (ok : DcOk d) : d.kept.Pairwise fun a b => a.1 < b.1 := ok.rise.sublist (List.drop_sublist _ _)
theorem verF_at : ∀ {l : List (Int × T)}, (l.Pairwise fun a b => a.1 < b.1) → ∀ {n : Nat} {v : Int × T}, l[n]? = some v → verF v.1 l = some v.2
  | [], _, _, _, h => by simp at h
  | u :: l, hp, 0, v, h => by
    simp only [List.getElem?_cons_zero, Option.some.injEq] at h
    subst h
    unfold verF; rw [if_pos rfl]
  | u :: l, hp, n + 1, v, h => by
    have h : l[n]? = some v := by simpa using h
    unfold verF
    have hp2 : l.Pairwise fun a b => a.1 < b.1 := hp.tail
    rw [if_neg, verF_at hp2 h]
    have := List.rel_of_pairwise_cons hp (List.mem_of_getElem? h)
    omega
theorem kept_len (d : Dc) : d.kept.length ≤ 8 := by unfold Dc.kept; rw [List.length_drop]; omega
theorem kept_pos {d : Dc} (ok : DcOk d) : 1 ≤ d.kept.length := by
  have : d.vs.length ≠ 0 := fun h => ok.some (List.length_eq_zero_iff.1 h)
  unfold Dc.kept; rw [List.length_drop]; omega
end
end Go.Proofs.YticccmpaekphgaaDoor.Vm
/- The store: Names, Kept, At, Close. -/
set_option maxRecDepth 100000
set_option linter.unusedSimpArgs false
set_option maxHeartbeats 1000000
namespace Go.Proofs.YticccmpaekphgaaDoor.Vm
open Go Go.VM Go.Proofs Go.Store Go.Lib T

section
variable {st0 st st' : St} {sp ow : Nat} {ds : List Dc}
/-- What is made on the way: a slice of which the end is new. -/
structure Way (st0 st : St) (v : AV) : Prop where
  keeps : Keeps st0 st (fun _ => False)
  new : ∀ j, ownerOf v j → st0.h ≤ j
theorem way_nils (st : St) : Way st st .nils := ⟨Keeps.refl _ _, fun j => by rintro ⟨_, _, h⟩; cases h⟩
theorem Way.keep {v : AV} (h : Way st0 st v) (k : Keeps st st' (fun _ => False)) : Way st0 st' v := ⟨h.keeps.trans k, h.new⟩
theorem Way.app {v v' : AV} (h : Way st0 st v) (k : Keeps st st' (ownerOf v)) (j : ∀ j, ownerOf v' j → ownerOf v j ∨ st.h ≤ j) : Way st0 st' v' :=
  ⟨Keeps.join h.keeps k fun i hi => .inr (h.new i hi), fun i hi => by
    rcases j i hi with hi | hi
    · exact h.new i hi
    · exact Nat.le_trans h.keeps.h hi⟩
abbrev zeroDoc : List AV := [AV.str [], AV.int .i64 0, AV.nilp, AV.int .i64 0, AV.nilp, AV.int .i64 0, AV.nilp, AV.int .i64 0, AV.nilp, AV.int .i64 0, AV.nilp, AV.int .i64 0, AV.nilp, AV.int .i64 0, AV.nilp, AV.int .i64 0, AV.nilp, AV.int .i64 0]
def nmV (d : Dc) : AV := .str d.nm
theorem names_loop (h0 : Sto st0 sp ow ds) (hw : st0.get ow = .ok (.row ds.length DT 18 (flat (ds.map Dc.val)))) (hlen : ds.length ≤ 1000000) : ∀ (m : List Dc) (i : Nat) (out : List Dc) (v : AV) (st : St), ds.drop i = m → Way st0 st v → Own st 1 9 v (out.map nmV) → out.length + m.length ≤ 1000000 →
    ∃ v' st', loopO (w15_L1 (.gs ow 18 ds.length) ds.length) ([v, .int .i64 (i : Int)], st) = some (0, [v'], st') ∧ Own st' 1 9 v' ((out ++ m).map nmV) ∧ Way st0 st' v'
  | [], i, out, v, st, hd, hW, ho, hl => by
    have := List.drop_eq_nil_iff.1 hd
    have q : ¬ (i : Int) < (ds.length : Int) := by omega
    refine ⟨v, st, loopO_inr ?_, by simpa using ho, hW⟩
    simp only [w15_L1, unc_cons, asI_int, un0_nil, ifB_decide, if_neg q]
  | d :: m, i, out, v, st, hd, hW, ho, hl => by
    obtain ⟨hg, hdr, hlt⟩ := drop_cons hd
    have q : (i : Int) < (ds.length : Int) := by omega
    have hst := h0.keeps hW.keeps
    have hws := hW.keeps.old _ _ (fun f => f) hw
    have ix := fun {β : Type} (K : AV → List Nat → Option β) => idxA_gs hws hlt K
    have ld := fun {β : Type} (K : AV → List Nat → Option β) => row_load hws hg K
    have a := fun j => (slot_pt d.pt j).asOne (β := Car ⊕ Nat × Car)
    obtain ⟨s1, g1, k1, n1, fx1, e1⟩ := local_var (O := orc vE) (st := st) (t := DT) (z := 18) (old := zeroDoc) (cs := docC d.nm d.pv) (.agg (docC d.nm d.pv)) rfl rfl hst.ro
    have l1 : ∀ {β : Type} (K : AV → List Nat → Option β), loadS 1 false (.mp st.h 0) s1 K = K (.str d.nm) [st.h] := fun K => by rw [loadS_mp g1]; rfl
    have hw1 : IntKind.wrap .i64 ((i : Int) + 1) = ((i + 1 : Nat) : Int) := wrapA1 (by omega)
    have ho1 := own_keep ho k1 (fun _ _ f => f)
    obtain ⟨v1, s2, x1, ho2, k2, j2, _, e2⟩ := own_fx (b := 16) [.str d.nm] ho1 fun _ => room_of (by
      simp only [List.length_map, List.length_cons, List.length_nil] at hl ⊢; omega) (by omega) (by omega)
    have hW2 := (hW.keep k1).app k2 j2
    obtain ⟨v', st', e, o3, hW3⟩ := names_loop h0 hw hlen m (i + 1) (out ++ [d]) v1 s2 hdr hW2 (by rw [List.map_append]; exact ho2) (by simp only [List.length_append, List.length_cons, List.length_nil] at hl ⊢; omega)
    refine ⟨v', st', (loopO_inl ?_).trans e, by simpa using o3, hW3⟩
    simp only [Dc.val, docC, docN, docS] at ld e1
    simp only [w15_L1, unc_cons, asI_int, un0_nil, ifB_decide, if_pos q, ix, ld, unA_agg, asS_str, letSt_eq, a]
    refine (e1 _).trans ?_
    simp only [l1, asS_str, e2, letV_eq, hw1]
theorem names_ok (h : Sto st sp ow ds) (hlen : ds.length ≤ 1000000) : ∃ v st', (orc vE).wide 15 [.mp sp 0] st = some (v, st') ∧ Own st' 1 9 v (ds.map nmV) ∧ Way st st' v := by
  have l1 : ∀ {v : AV}, st.get sp = .ok (.cells SOT [v]) → ∀ {β : Type} (K : AV → List Nat → Option β), loadS 1 false (.mp sp 0) st K = K v [sp] := fun hg _ K => by rw [loadS_mp hg]; rfl
  obtain ⟨hr, v, hg, hv⟩ := id h
  rcases hv with ⟨rfl, rfl⟩ | ⟨rfl, hw⟩
  · have e : loopO (w15_L1 .nils 0) ([.nils, .int .i64 0], st) = some (0, [.nils], st) := by
      refine loopO_inr ?_
      have q : ¬ (0 : Int) < ((0 : Nat) : Int) := by omega
      simp only [w15_L1, unc_cons, asI_int, un0_nil, ifB_decide, if_neg q]
    refine ⟨.nils, st, wide_of ((w15_eq _ _).trans ?_), Own.nils h.ro _ _, way_nils st⟩
    simp only [w15, nil_mp, ifB_false, notNil_mp, chk_true, fldA_mp, Nat.add_zero, l1 hg, lenS_nils, e, bindO_ok, unc_cons, un0_nil, oneOf_one]
  · obtain ⟨v', st', e, o, w⟩ := names_loop h hw hlen ds 0 [] .nils st rfl (way_nils st) (Own.nils h.ro _ _) (by simpa using hlen)
    have e : loopO (w15_L1 (.gs ow 18 ds.length) ds.length) ([.nils, .int .i64 0], st) = _ := e
    refine ⟨v', st', wide_of ((w15_eq _ _).trans ?_), o, w⟩
    simp only [w15, nil_mp, ifB_false, notNil_mp, chk_true, fldA_mp, Nat.add_zero, l1 hg, lenS_gs, e, bindO_ok, unc_cons, un0_nil, oneOf_one]
theorem call_names (h : Sto st sp ow ds) (hlen : ds.length ≤ 1000000) : ∃ v st', Own st' 1 9 v (ds.map nmV) ∧ Way st st' v ∧ ∀ {β : Type} (K : Kv β), callS (orc vE) 15 [.mp sp 0] st K = K v st' ⟨[], .all st st'⟩ := by
  obtain ⟨v, st', e, o, w⟩ := names_ok h hlen
  exact ⟨v, st', o, w, fun K => callS_wide K rfl (bares_mp _ _ _ _) e⟩
theorem call_versions (h : Sto st sp ow ds) {i : Nat} {d : Dc} (hd : ds[i]? = some d) (ok : DcOk d) :
    ∃ v' st', Own st' 2 VT v' (d.kept.map fun v => verV (v.1, rp v.2)) ∧ Way st st' v' ∧ ∀ {β : Type} (K : Kv β), callS (orc vE) 36 [.gp ow ds.length (i * 18)] st K = K v' st' ⟨[], .all st st'⟩ := by
  have hne : 1 ≤ d.pv.length := by
    rw [d.pv_len]
    cases hv : d.vs with
    | nil => exact absurd hv ok.some
    | cons _ _ => simp
  obtain ⟨v', st', e, o, k, j⟩ := versions_ok (h.doc hd) d.pt (by rw [d.pv_len]; have := ok.len; omega) hne h.ro
  refine ⟨v', st', ?_, ⟨k, j⟩, fun K => callS_wide K rfl (bares_gp _ _ _ _ _) e⟩
  have : (d.pv.drop (d.pv.length - 8)).map verV = d.kept.map fun v => verV (v.1, rp v.2) := by
    unfold Dc.pv Dc.kept
    rw [← List.map_drop, List.map_map, List.length_map]
    rfl
  rw [← this]; exact o
def noV (v : Int × T) : AV := .int .i64 v.1
theorem kept_loop {x : AV} {l : List (Int × T)} {sx : St} (hx : Own sx 2 VT x (l.map fun v => verV (v.1, rp v.2))) (hr0 : st0.ro = 0) (hlen : l.length ≤ 1000000) : ∀ (m : List (Int × T)) (i : Nat) (out : List (Int × T)) (v : AV) (st : St), l.drop i = m → Way st0 st v → Own st 1 3 v (out.map noV) → out.length + m.length ≤ 1000000 →
    ∃ v' st', loopO (w16_L1 x l.length) ([v, .int .i64 (i : Int)], st) = some (0, [v'], st') ∧ Own st' 1 3 v' ((out ++ m).map noV) ∧ Way st0 st' v'
  | [], i, out, v, st, hd, hW, ho, hl => by
    have := List.drop_eq_nil_iff.1 hd
    have q : ¬ (i : Int) < (l.length : Int) := by omega
    refine ⟨v, st, loopO_inr ?_, by simpa using ho, hW⟩
    simp only [w16_L1, unc_cons, asI_int, un0_nil, ifB_decide, if_neg q]
  | u :: m, i, out, v, st, hd, hW, ho, hl => by
    obtain ⟨hg, hdr, hlt⟩ := drop_cons hd
    have q : (i : Int) < (l.length : Int) := by omega
    have hg2 : (l.map fun v => verV (v.1, rp v.2))[i]? = some (verV (u.1, rp u.2)) := by rw [List.getElem?_map, hg]; rfl
    have ix : ∀ {β : Type} (K : AV → List Nat → Option β), idxA 2 x (i : Int) st K = K (.ip [.int .i64 u.1, rp u.2]) [] := fun K => own_idx hx hg2 st K
    have tk2 : ∀ {β : Type} (a b : AV) (K : AV → Option β), bindO (takeO 2 true [a, b]) K = K (.agg [a, b]) := fun _ _ _ => rfl
    have ro : st.ro ≤ st.h := by rw [hW.keeps.ro, hr0]; exact Nat.zero_le _
    obtain ⟨s1, g1, k1, n1, fx1, e1⟩ := local_var (O := orc vE) (st := st) (t := VT) (z := 2) (old := [.int .i64 0, .nilp]) (cs := [.int .i64 u.1, rp u.2]) (.agg [.int .i64 u.1, rp u.2]) rfl rfl ro
    have l1 : ∀ {β : Type} (K : AV → List Nat → Option β), loadS 1 false (.mp st.h 0) s1 K = K (.int .i64 u.1) [st.h] := fun K => by rw [loadS_mp g1]; rfl
    have hw1 : IntKind.wrap .i64 ((i : Int) + 1) = ((i + 1 : Nat) : Int) := wrapA1 (by omega)
    have ho1 := own_keep ho k1 (fun _ _ f => f)
    have art : ∀ {β : Type} (K : Option β), asOne (rp u.2) K = K := fun K => rfl
    obtain ⟨v1, s2, x1, ho2, k2, j2, _, e2⟩ := own_fx (b := 8) [.int .i64 u.1] ho1 fun _ => room_of (by
      simp only [List.length_map, List.length_cons, List.length_nil] at hl ⊢; omega) (by omega) (by omega)
    have hW2 := (hW.keep k1).app k2 j2
    obtain ⟨v', st', e, o3, hW3⟩ := kept_loop hx hr0 hlen m (i + 1) (out ++ [u]) v1 s2 hdr hW2 (by rw [List.map_append]; exact ho2) (by simp only [List.length_append, List.length_cons, List.length_nil] at hl ⊢; omega)
    refine ⟨v', st', (loopO_inl ?_).trans e, by simpa using o3, hW3⟩
    simp only [w16_L1, unc_cons, asI_int, un0_nil, ifB_decide, if_pos q, ix, loadS_ip, tk2, unA_agg, letSt_eq, art, e1, l1, e2, letV_eq, hw1]
theorem call_kept (h : Sto st sp ow ds) (hok : ∀ d ∈ ds, DcOk d) (hl : ds.length ≤ 1000000) (nm : B) :
    ∃ v st', Own st' 1 3 v ((match docN' nm ds with | none => [] | some d => d.kept).map noV) ∧ Way st st' v ∧ ∀ {β : Type} (K : Kv β), callS (orc vE) 16 [.mp sp 0, .str nm] st K = K (.tup [v, .int .i64 (match docN' nm ds with | none => 5 | some _ => 0)]) st' ⟨[], .all st st'⟩ := by
  obtain ⟨s1, e1, k1⟩ := open_ok h hl nm
  have h1 := h.keeps k1
  have co := fun {β : Type} (K : Kv β) => call_open e1 K
  unfold docN'
  cases hf : findN nm ds 0 with
  | none =>
    rw [hf] at co
    refine ⟨.nils, s1, Own.nils h1.ro _ _, ⟨k1, (way_nils st).new⟩, fun K => callS_wide K rfl (bares_mp _ _ _ _) (wide_of ((w16_eq _ _ _).trans ?_))⟩
    simp only [w16, asS_str, co, unT_tup, nthS_zero, nthS_one, asI_int, ifB_bne, show ¬ ((5 : Int) = 0) by decide, if_false]
    rfl
  | some k =>
    rw [hf] at co
    obtain ⟨d, hd, _⟩ := find_doc hf
    have ok := hok d (List.mem_of_getElem? hd)
    simp only [Option.bind_some, hd]
    obtain ⟨x, s2, ox, wx, cv⟩ := call_versions h1 hd ok
    have hkl := kept_len d
    have hln : ∀ {β : Type} (K : Nat → Option β), lenS x K = K d.kept.length := fun K => by rw [own_len ox, List.length_map]
    have k12 := k1.trans wx.keeps
    have h2 := h1.keeps wx.keeps
    obtain ⟨v, s3, e3, o3, w3⟩ := kept_loop (st0 := st) ox h.1 (by omega) d.kept 0 [] .nils s2 rfl ⟨k12, (way_nils st).new⟩ (Own.nils h2.ro _ _) (by simp; omega)
    have e3 : loopO (w16_L1 x d.kept.length) ([.nils, .int .i64 0], s2) = _ := e3
    refine ⟨v, s3, o3, w3, fun K => callS_wide K rfl (bares_mp _ _ _ _) (wide_of ((w16_eq _ _ _).trans ?_))⟩
    simp only [w16, asS_str, co, unT_tup, nthS_zero, nthS_one, asI_int, ifB_bne, if_true, cv, hln, e3, bindO_ok, unc_cons, un0_nil]
theorem at_loop {x : AV} {l : List (Int × T)} {sx : St} (hx : Own sx 2 VT x (l.map fun v => verV (v.1, rp v.2))) (hr0 : st0.ro = 0) (hlen : l.length ≤ 1000000) (hwf : ∀ v ∈ l, v.2.size ≤ 65536) (no : Int) : ∀ (m : List (Int × T)) (i : Nat) (st : St), l.drop i = m → Keeps st0 st (fun _ => False) →
    ∃ r s n st', loopO (w17_L1 no x l.length) ([.str [], .int .i64 0, .int .i64 (i : Int)], st) = some (r, [.str s, .int .i64 n], st') ∧ Keeps st0 st' (fun _ => False) ∧ match verF no m with | none => r = 0 | some t => r = 1 ∧ s = t.text ∧ n = 0
  | [], i, st, hd, hk => by
    have := List.drop_eq_nil_iff.1 hd
    have q : ¬ (i : Int) < (l.length : Int) := by omega
    refine ⟨0, [], 0, st, loopO_inr ?_, hk, rfl⟩
    simp only [w17_L1, unc_cons, asI_int, asS_str, un0_nil, ifB_decide, if_neg q]
  | u :: m, i, st, hd, hk => by
    obtain ⟨hg, hdr, hlt⟩ := drop_cons hd
    have q : (i : Int) < (l.length : Int) := by omega
    have hg2 : (l.map fun v => verV (v.1, rp v.2))[i]? = some (verV (u.1, rp u.2)) := by rw [List.getElem?_map, hg]; rfl
    have ix : ∀ {β : Type} (K : AV → List Nat → Option β), idxA 2 x (i : Int) st K = K (.ip [.int .i64 u.1, rp u.2]) [] := fun K => own_idx hx hg2 st K
    have tk2 : ∀ {β : Type} (a b : AV) (K : AV → Option β), bindO (takeO 2 true [a, b]) K = K (.agg [a, b]) := fun _ _ _ => rfl
    have ro : st.ro ≤ st.h := by rw [hk.ro, hr0]; exact Nat.zero_le _
    obtain ⟨s1, g1, k1, n1, fx1, e1⟩ := local_var (O := orc vE) (st := st) (t := VT) (z := 2) (old := [.int .i64 0, .nilp]) (cs := [.int .i64 u.1, rp u.2]) (.agg [.int .i64 u.1, rp u.2]) rfl rfl ro
    have l1 : ∀ {β : Type} (K : AV → List Nat → Option β), loadS 1 false (.mp st.h 0) s1 K = K (.int .i64 u.1) [st.h] := fun K => by rw [loadS_mp g1]; rfl
    have l2 : ∀ {β : Type} (K : AV → List Nat → Option β), loadS 1 false (.mp st.h 1) s1 K = K (rp u.2) [st.h] := fun K => by rw [loadS_mp g1]; rfl
    have hw1 : IntKind.wrap .i64 ((i : Int) + 1) = ((i + 1 : Nat) : Int) := wrapA1 (by omega)
    have art : ∀ {β : Type} (K : Option β), asOne (rp u.2) K = K := fun K => rfl
    have hsz := hwf u (List.mem_of_getElem? hg)
    have cs := fun {β : Type} (st : St) (K : Kv β) => call_string (t := u.2) (by omega) st K
    unfold verF
    by_cases hn : u.1 = no
    · rw [if_pos hn]
      refine ⟨1, u.2.text, 0, s1, loopO_inr ?_, hk.trans k1, rfl, rfl, rfl⟩
      simp only [w17_L1, unc_cons, asI_int, asS_str, un0_nil, ifB_decide, if_pos q, ix, loadS_ip, tk2, unA_agg, letSt_eq, art, e1, l1, ifB_beq, if_pos hn, l2, cs]
    · rw [if_neg hn]
      obtain ⟨r, s, n, st', e, k3, hm⟩ := at_loop hx hr0 hlen hwf no m (i + 1) s1 hdr (hk.trans k1)
      refine ⟨r, s, n, st', (loopO_inl ?_).trans e, k3, hm⟩
      simp only [w17_L1, unc_cons, asI_int, asS_str, un0_nil, ifB_decide, if_pos q, ix, loadS_ip, tk2, unA_agg, letSt_eq, art, e1, l1, ifB_beq, if_neg hn, letV_eq, hw1]
theorem call_at (h : Sto st sp ow ds) (hok : ∀ d ∈ ds, DcOk d) (hl : ds.length ≤ 1000000) (nm : B) (no : Int) :
    ∃ st', Keeps st st' (fun _ => False) ∧ ∀ {β : Type} (K : Kv β), callS (orc vE) 17 [.mp sp 0, .str nm, .int .i64 no] st K = K (match atT ds nm no with | none => .tup [.str [], .int .i64 5] | some s => .tup [.str s, .int .i64 0]) st' ⟨[], .all st st'⟩ := by
  obtain ⟨s1, e1, k1⟩ := open_ok h hl nm
  have h1 := h.keeps k1
  have co := fun {β : Type} (K : Kv β) => call_open e1 K
  unfold atT docN'
  cases hf : findN nm ds 0 with
  | none =>
    rw [hf] at co
    refine ⟨s1, k1, fun K => callS_wide K rfl (bares_mp _ _ _ _) (wide_of ((w17_eq _ _ _ _).trans ?_))⟩
    simp only [w17, asS_str, co, unT_tup, nthS_zero, nthS_one, asI_int, ifB_bne, show ¬ ((5 : Int) = 0) by decide, if_false]
    rfl
  | some k =>
    rw [hf] at co
    obtain ⟨d, hd, _⟩ := find_doc hf
    have ok := hok d (List.mem_of_getElem? hd)
    simp only [Option.bind_some, hd]
    obtain ⟨x, s2, ox, wx, cv⟩ := call_versions h1 hd ok
    have hkl := kept_len d
    have hln : ∀ {β : Type} (K : Nat → Option β), lenS x K = K d.kept.length := fun K => by rw [own_len ox, List.length_map]
    have k12 := k1.trans wx.keeps
    obtain ⟨r, s, n, s3, e3, k3, hm⟩ := at_loop (st0 := st) ox h.1 (by omega) (fun v hv => (ok.wf v (List.mem_of_mem_drop hv)).2) no d.kept 0 s2 rfl k12
    have e3 : loopO (w17_L1 no x d.kept.length) ([.str [], .int .i64 0, .int .i64 0], s2) = _ := e3
    refine ⟨s3, k3, fun K => callS_wide K rfl (bares_mp _ _ _ _) (wide_of ((w17_eq _ _ _ _).trans ?_))⟩
    cases hv : verF no d.kept with
    | none =>
      rw [hv] at hm
      have hm : r = 0 := hm
      subst hm
      simp only [w17, asS_str, co, unT_tup, nthS_zero, nthS_one, asI_int, ifB_bne, if_true, cv, hln, e3, bindO_ok, unc_cons, un0_nil, sel2_zero, Option.map_none]
    | some t =>
      rw [hv] at hm
      obtain ⟨h1, h2, h3⟩ := hm
      subst h1; subst h2; subst h3
      simp only [w17, asS_str, co, unT_tup, nthS_zero, nthS_one, asI_int, ifB_bne, if_true, cv, hln, e3, bindO_ok, unc_cons, un0_nil, sel2_one, Option.map_some]
theorem flat_erase {z : Nat} : ∀ {es : List AV} (_ : ∀ v ∈ es, v.cells.length = z) {i : Nat}, i < es.length → flat (es.eraseIdx i) = (flat es).take (i * z) ++ (flat es).drop ((i + 1) * z)
  | [], _, _, h => by simp at h
  | u :: l, hz, 0, _ => by
    have hu := hz u (by simp)
    show flat l = (u.cells ++ flat l).take (0 * z) ++ (u.cells ++ flat l).drop ((0 + 1) * z)
    rw [Nat.zero_mul, List.take_zero, Nat.zero_add, Nat.one_mul, List.nil_append, List.drop_left' hu]
  | u :: l, hz, i + 1, h => by
    have hu := hz u (by simp)
    have ih := flat_erase (fun x hx => hz x (List.mem_cons_of_mem _ hx)) (show i < l.length by simpa using h)
    show u.cells ++ flat (l.eraseIdx i) = (u.cells ++ flat l).take ((i + 1) * z) ++ (u.cells ++ flat l).drop ((i + 1 + 1) * z)
    have e1 : (i + 1) * z = u.cells.length + i * z := by rw [hu, Nat.add_mul]; omega
    have e2 : (i + 1 + 1) * z = u.cells.length + (i + 1) * z := by rw [hu, Nat.add_mul (i + 1)]; omega
    have t : (u.cells ++ flat l).take ((i + 1) * z) = u.cells ++ (flat l).take (i * z) := by rw [e1, List.take_append, List.take_of_length_le (by omega), Nat.add_sub_cancel_left]
    rw [ih, e2, ← List.drop_drop, List.drop_left, t, List.append_assoc]
theorem map_erase {α β : Type} (f : α → β) : ∀ (l : List α) (i : Nat), (l.map f).eraseIdx i = (l.eraseIdx i).map f
  | [], _ => rfl
  | _ :: _, 0 => rfl
  | a :: l, i + 1 => congrArg (f a :: ·) (map_erase f l i)
theorem wrule_of {f : FuncId} {args : List AV} {st : St} {r : List AV → St → Res (AV × St)} {v : AV × St} (hF : vE.F f = none) (hr : vE.wrule f = some r) (h : r args st = .ok v) : (orc vE).wide f args st = some v := by
  refine orc_wide (n := 1) ?_
  simp only [caller, hF, hr, h]
theorem close_ok (h : Sto st sp ow ds) (hl : ds.length ≤ 1000000) (nm : B) :
    match findN nm ds 0 with
    | none => ∃ st', Keeps st st' (fun _ => False) ∧ ∀ {β : Type} (K : Kv β), callS (orc vE) 18 [.mp sp 0, .str nm] st K = K (.int .i64 5) st' ⟨[], .all st st'⟩
    | some i => ∃ st' ow', Sto st' sp ow' (ds.eraseIdx i) ∧ Keeps st st' (fun j => j = sp ∨ j = ow) ∧ st.h ≤ ow' ∧ ∀ {β : Type} (K : Kv β), callS (orc vE) 18 [.mp sp 0, .str nm] st K = K (.int .i64 0) st' ⟨[], .all st st'⟩ := by
  obtain ⟨s1, e1, k1⟩ := find_ok h hl nm
  have h1 := h.keeps k1
  have cf := fun {β : Type} (K : Kv β) => call_find e1 K
  unfold findI at cf
  cases hf : findN nm ds 0 with
  | none =>
    rw [hf] at cf
    have q : (-1 : Int) < 0 := by omega
    refine ⟨s1, k1, fun K => callS_wide K rfl (bares_mp _ _ _ _) (wide_of ((w18_eq _ _ _).trans ?_))⟩
    simp only [w18, asS_str, nil_mp, ifB_false, cf, asI_int, ifB_decide, if_pos q]
  | some i =>
    rw [hf] at cf
    obtain ⟨d, hd, _⟩ := find_doc hf
    have hlt : i < ds.length := by
      by_cases hi : i < ds.length
      · exact hi
      · rw [List.getElem?_eq_none (by omega)] at hd; cases hd
    obtain ⟨hg1, hw1⟩ := h1.row hd
    have q : ¬ (i : Int) < 0 := by omega
    have hw : IntKind.wrap .i64 ((i : Int) + 1) = ((i + 1 : Nat) : Int) := wrapA1 (by omega)
    have l1 : ∀ {β : Type} (K : AV → List Nat → Option β), loadS 1 false (.mp sp 0) s1 K = K (.gs ow 18 ds.length) [sp] := fun K => by rw [loadS_mp hg1]; rfl
    have hdel : (delR DT 18) [.gs ow 18 ds.length, .int .i64 (i : Int), .int .i64 ((i + 1 : Nat) : Int)] s1 = .ok (.gs s1.h 18 (ds.length - 1), ((s1.put ow .dead).add (.row (ds.length - 1) DT 18 ((flat (ds.map Dc.val)).take (i * 18) ++ (flat (ds.map Dc.val)).drop ((i + 1) * 18))))) := by
      show (do
        match ← s1.get ow with
        | .row m e' z2 cs => match (ds.length.beq m && (Nat.beq e' DT && (z2.beq 18 && (18 : Nat).beq 18))) && ((i.blt (i + 1) && (i + 1).ble ds.length) && s1.ro.ble ow) with
          | true => pure (AV.gs s1.h 18 (ds.length - (i + 1 - i)), ((s1.put ow .dead).new (.row (ds.length - (i + 1 - i)) DT 18 (cs.take (i * 18) ++ cs.drop ((i + 1) * 18)))).2)
          | false => Except.error "delete: what?"
        | _ => Except.error "delete: of what?" : Res (AV × St)) = _
      have c : ((ds.length.beq ds.length && (Nat.beq DT DT && ((18 : Nat).beq 18 && (18 : Nat).beq 18))) && ((i.blt (i + 1) && (i + 1).ble ds.length) && s1.ro.ble ow)) = true := by
        rw [Nat.beq_refl, h1.1, Nat.ble_eq_true_of_le (show i + 1 ≤ ds.length by omega), blt_true.2 (Nat.lt_succ_self i), Nat.ble_eq_true_of_le (Nat.zero_le ow)]
        rfl
      rw [hw1]
      simp only [ok_bind, c, Nat.add_sub_cancel_left, pure_eq]
      rfl
    have e2 : (orc vE).wide 37 [.gs ow 18 ds.length, .int .i64 (i : Int), .int .i64 ((i + 1 : Nat) : Int)] s1 = some _ := wrule_of rfl rfl hdel
    have cd : ∀ {β : Type} (K : Kv β), callS (orc vE) 37 [.gs ow 18 ds.length, .int .i64 (i : Int), .int .i64 ((i + 1 : Nat) : Int)] s1 K = K _ _ ⟨[], .all s1 _⟩ := fun K => callS_wide K rfl rfl e2
    rw [← flat_erase (vals_len ds) (by rw [List.length_map]; exact hlt)] at cd
    have hlm : (ds.eraseIdx i).length = ds.length - 1 := List.length_eraseIdx_of_lt hlt
    have hmap : (ds.map Dc.val).eraseIdx i = (ds.eraseIdx i).map Dc.val := map_erase _ _ _
    rw [← hlm, hmap] at cd
    have gnew : ((s1.put ow .dead).add (.row (ds.eraseIdx i).length DT 18 (flat ((ds.eraseIdx i).map Dc.val)))).get s1.h = .ok (.row (ds.eraseIdx i).length DT 18 (flat ((ds.eraseIdx i).map Dc.val))) := St.get_add_new (st := s1.put ow .dead)
    have hso : sp ≠ ow := by rintro rfl; rw [hg1] at hw1; cases hw1
    have k2 : Keeps s1 ((s1.put ow .dead).add (.row (ds.eraseIdx i).length DT 18 (flat ((ds.eraseIdx i).map Dc.val)))) (· = ow) := (Keeps.put (but := (· = ow)) rfl).trans (Keeps.add _ _ _)
    have hh : s1.h < ((s1.put ow .dead).add (.row (ds.eraseIdx i).length DT 18 (flat ((ds.eraseIdx i).map Dc.val)))).h := Nat.lt_succ_self _
    generalize (s1.put ow .dead).add (.row (ds.eraseIdx i).length DT 18 (flat ((ds.eraseIdx i).map Dc.val))) = s2 at cd gnew k2 hh
    have hg2 : s2.get sp = .ok (.cells SOT [.gs ow 18 ds.length]) := k2.of_ne hso hg1
    have hr2 : s2.ro = 0 := by rw [k2.ro, h1.1]
    obtain ⟨s3, g3, k3, n3, fx3, e3⟩ := var_put (O := orc vE) (.gs s1.h 18 (ds.eraseIdx i).length) hg2 (z := 1) (cs := [.gs s1.h 18 (ds.eraseIdx i).length]) rfl rfl (by rw [hr2]; exact Nat.zero_le _)
    have hne : s1.h ≠ sp := Nat.ne_of_gt (St.get_ok.1 hg1).1
    refine ⟨s3, s1.h, ⟨by rw [k3.ro, hr2], _, g3, .inr ⟨rfl, k3.of_ne hne gnew⟩⟩, (k1.weak fun _ f => f.elim).trans ((k2.weak fun j hj => .inr hj).trans (k3.weak fun j hj => .inl hj)), k1.h, fun K => callS_wide K rfl (bares_mp _ _ _ _) (wide_of ((w18_eq _ _ _).trans ?_))⟩
    have ag : ∀ {β : Type} (K : Option β), asOne (.gs s1.h 18 (ds.eraseIdx i).length) K = K := fun K => rfl
    simp only [w18, asS_str, nil_mp, ifB_false, cf, asI_int, ifB_decide, if_neg q, notNil_mp, chk_true, fldA_mp, Nat.add_zero, l1, letV_eq, hw, cd, ag, e3]
end
end Go.Proofs.YticccmpaekphgaaDoor.Vm
/- works: a run. -/
set_option maxRecDepth 1000000
set_option maxHeartbeats 0
namespace Go.Proofs.YticccmpaekphgaaDoor.Vm
open Go Go.VM Go.Proofs
theorem works_run : (caller vE 3000).bare 7 [] = .ok (.bool true) := by kernel_rfl
theorem works_ok : (orc vE).bare 7 [] = some (.bool true) := orc_bare works_run
theorem call_works {β : Type} (st : St) (K : Kv β) : callS (orc vE) 7 [] st K = K (.bool true) st q0 := callS_bare st K rfl rfl rfl works_ok
end Go.Proofs.YticccmpaekphgaaDoor.Vm
set_option maxRecDepth 1000000
set_option maxHeartbeats 0
namespace Go.Proofs.YticccmpaekphgaaDoor.Vm
open Go Go.VM Go.Proofs
/-- rostrum/rostrumlaw25.StoreStays -/
noncomputable def g4_L1 (v16 : AV) (v27 : AV) (n40 : Int) (v51 : AV) : Car → Option (Car ⊕ Nat × Car) := fun c61 => unc (Prod.fst c61) fun v62 l63 => asB v62 fun b64 => unc l63 fun v65 l66 => unc l66 fun v67 l68 => asI
 .i64 v67 fun n69 => un0 l68 (lenS v51 fun k70 => ifB (decide (n69 < (↑k70 : Int))) (idxA 1 v27 n40 (Prod.snd c61) fun v71 _x => loadS 1 false v71 (Prod.snd c61) fun v73 _x => asS v73 fun l75 => idxA 1 v51 n69 (Prod.snd
 c61) fun v76 _x => loadS 1 false v76 (Prod.snd c61) fun v78 _x => asI .i64 v78 fun n80 => callS (orc vE) 17 [v16, AV.str l75, AV.int .i64 n80] (Prod.snd c61) fun v81 st82 _x => unT v81 fun l84 => nthS l84 0 fun v85 =>
 asS v85 fun l86 => unT v81 fun l87 => nthS l87 1 fun v88 => asI .i64 v88 fun n89 => ifB (n89 != 0) (some (Sum.inr (1, [AV.bool false, v65], st82))) (appS 1 16 9 v65 [AV.str l86] st82 fun v90 st91 _x => letV
 (IntKind.wrap .i64 (n69 + 1)) fun n93 => some (Sum.inl ([AV.bool b64, v90, AV.int .i64 n93], st91)))) (some (Sum.inr (0, [AV.bool b64, v65], Prod.snd c61))))
noncomputable def g4_L2 (v16 : AV) (v27 : AV) : Car → Option (Car ⊕ Nat × Car) := fun c30 => unc (Prod.fst c30) fun v31 l32 => asB v31 fun b33 => unc l32 fun v34 l35 => unc l35 fun v36 l37 => unc l37 fun v38 l39 => asI
 .i64 v38 fun n40 => un0 l39 (lenS v27 fun k41 => ifB (decide (n40 < (↑k41 : Int))) (idxA 1 v27 n40 (Prod.snd c30) fun v42 _x => loadS 1 false v42 (Prod.snd c30) fun v44 _x => asS v44 fun l46 => callS (orc vE) 16 [v16,
 AV.str l46] (Prod.snd c30) fun v47 st48 _x => unT v47 fun l50 => nthS l50 0 fun v51 => unT v47 fun l52 => nthS l52 1 fun v53 => asI .i64 v53 fun n54 => bindO (ifB (n54 != 0) (some ([AV.bool true], st48)) (lenS v51 fun
 k55 => ifB ((↑k55 : Int) == 0) (some ([AV.bool true], st48)) (lenS v51 fun k56 => some ([AV.bool (decide ((↑k56 : Int) > 8))], st48)))) fun c57 => unc (Prod.fst c57) fun v58 l59 => asB v58 fun b60 => un0 l59 (ifB b60
 (some (Sum.inr (1, [AV.bool false, v34, v36], Prod.snd c57))) (bindO (loopO (g4_L1 v16 v27 n40 v51) ([AV.bool b33, AV.nils, AV.int .i64 0], Prod.snd c57)) fun c94 => unc (Prod.fst (Prod.snd c94)) fun v95 l96 => asB v95
 fun b97 => unc l96 fun v98 l99 => un0 l99 (sel2 (Prod.fst c94) (asOne v51 (asOne v51 (fit1 v51 fun v100 => fit1 v100 fun v101 => chk (sizesOk 1 [v101]) (appS 1 24 43 v34 [v101] (Prod.snd (Prod.snd c94)) fun v102 st103
 _x => asOne v98 (asOne v98 (fit1 v98 fun v105 => fit1 v105 fun v106 => chk (sizesOk 1 [v106]) (appS 1 24 39 v36 [v106] st103 fun v107 st108 _x => letV (IntKind.wrap .i64 (n40 + 1)) fun n110 => some (Sum.inl ([AV.bool
 b97, v102, v107, AV.int .i64 n110], st108))))))))) fun _x => some (Sum.inr (1, [AV.bool b97, v34, v36], Prod.snd (Prod.snd c94))))))) (some (Sum.inr (0, [AV.bool b33, v34, v36], Prod.snd c30))))
noncomputable def g4_L3 (v16 : AV) (v27 : AV) (v116 : AV) (v118 : AV) (n213 : Int) (b242 : Bool) : Car → Option (Car ⊕ Nat × Car) := fun c267 => unc (Prod.fst c267) fun v268 l269 => asB v268 fun b270 => unc l269 fun
 v271 l272 => asI .i64 v271 fun n273 => un0 l272 (idxA 1 v116 n213 (Prod.snd c267) fun v274 _x => loadS 1 false v274 (Prod.snd c267) fun v276 _x => lenS v276 fun k278 => ifB (decide (n273 < (↑k278 : Int))) (idxA 1 v27
 n213 (Prod.snd c267) fun v279 _x => loadS 1 false v279 (Prod.snd c267) fun v281 _x => asS v281 fun l283 => idxA 1 v116 n213 (Prod.snd c267) fun v284 _x => loadS 1 false v284 (Prod.snd c267) fun v286 _x => idxA 1 v286
 n273 (Prod.snd c267) fun v288 _x => loadS 1 false v288 (Prod.snd c267) fun v290 _x => asI .i64 v290 fun n292 => callS (orc vE) 17 [v16, AV.str l283, AV.int .i64 n292] (Prod.snd c267) fun v293 st294 _x => unT v293 fun
 l296 => nthS l296 0 fun v297 => asS v297 fun l298 => unT v293 fun l299 => nthS l299 1 fun v300 => asI .i64 v300 fun n301 => bindO (ifB (n301 == 0) (idxA 1 v118 n213 st294 fun v302 _x => loadS 1 false v302 st294 fun v304
 _x => idxA 1 v304 n273 st294 fun v306 _x => loadS 1 false v306 st294 fun v308 _x => asS v308 fun l310 => ifB (!l298 == l310) (some ([AV.bool true], st294)) (ifB (n301 != 0) (some ([AV.bool !b242], st294)) (some
 ([AV.bool false], st294)))) (ifB (n301 != 0) (some ([AV.bool !b242], st294)) (some ([AV.bool false], st294)))) fun c311 => unc (Prod.fst c311) fun v312 l313 => asB v312 fun b314 => un0 l313 (ifB b314 (some (Sum.inr (1,
 [AV.bool false], Prod.snd c311))) (letV (IntKind.wrap .i64 (n273 + 1)) fun n315 => some (Sum.inl ([AV.bool b270, AV.int .i64 n315], Prod.snd c311))))) (some (Sum.inr (0, [AV.bool b270], Prod.snd c267))))
noncomputable def g4_L4 (x0 : AV) (v16 : AV) (n25 : Int) (v27 : AV) (v116 : AV) (v118 : AV) (n193 : Int) : Car → Option (Car ⊕ Nat × Car) := fun c207 => unc (Prod.fst c207) fun v208 l209 => asB v208 fun b210 => unc l209
 fun v211 l212 => asI .i64 v211 fun n213 => un0 l212 (lenS v27 fun k214 => ifB (decide (n213 < (↑k214 : Int))) (idxA 1 v27 n213 (Prod.snd c207) fun v215 _x => loadS 1 false v215 (Prod.snd c207) fun v217 _x => asS v217
 fun l219 => callS (orc vE) 16 [v16, AV.str l219] (Prod.snd c207) fun v220 st221 _x => unT v220 fun l223 => nthS l223 0 fun v224 => unT v220 fun l225 => nthS l225 1 fun v226 => asI .i64 v226 fun n227 => bindO (idxA 1 v27
 n213 st221 fun v228 _x => loadS 1 false v228 st221 fun v230 _x => asS v230 fun l232 => idxA 5 x0 n25 st221 fun v233 _x => fldA 1 v233 fun v235 => loadS 1 false v235 st221 fun v236 _x => asS v236 fun l238 => ifB (l232 ==
 l238) (some ([AV.bool (n193 == 0)], st221)) (some ([AV.bool false], st221))) fun c239 => unc (Prod.fst c239) fun v240 l241 => asB v240 fun b242 => un0 l241 (bindO (ifB (!b242) (ifB (n227 != 0) (some ([AV.bool true],
 Prod.snd c239)) (idxA 1 v116 n213 (Prod.snd c239) fun v243 _x => loadS 1 false v243 (Prod.snd c239) fun v245 _x => callS (orc vE) 20 [v224, v245] (Prod.snd c239) fun v247 st248 _x => asB v247 fun b250 => ifB (!b250)
 (some ([AV.bool true], st248)) (ifB b242 (idxA 5 x0 n25 st248 fun v251 _x => fldA 0 v251 fun v253 => loadS 1 false v253 st248 fun v254 _x => asI .u8 v254 fun n256 => ifB (n256 == 2) (some ([AV.bool (n227 != 5)], st248))
 (some ([AV.bool false], st248))) (some ([AV.bool false], st248))))) (ifB b242 (idxA 5 x0 n25 (Prod.snd c239) fun v257 _x => fldA 0 v257 fun v259 => loadS 1 false v259 (Prod.snd c239) fun v260 _x => asI .u8 v260 fun n262
 => ifB (n262 == 2) (some ([AV.bool (n227 != 5)], Prod.snd c239)) (some ([AV.bool false], Prod.snd c239))) (some ([AV.bool false], Prod.snd c239)))) fun c263 => unc (Prod.fst c263) fun v264 l265 => asB v264 fun b266 =>
 un0 l265 (ifB b266 (some (Sum.inr (1, [AV.bool false], Prod.snd c263))) (bindO (loopO (g4_L3 v16 v27 v116 v118 n213 b242) ([AV.bool b210, AV.int .i64 0], Prod.snd c263)) fun c316 => unc (Prod.fst (Prod.snd c316)) fun
 v317 l318 => asB v317 fun b319 => un0 l318 (sel2 (Prod.fst c316) (letV (IntKind.wrap .i64 (n213 + 1)) fun n320 => some (Sum.inl ([AV.bool b319, AV.int .i64 n320], Prod.snd (Prod.snd c316)))) fun _x => some (Sum.inr (1,
 [AV.bool b319], Prod.snd (Prod.snd c316)))))))) (some (Sum.inr (0, [AV.bool b210], Prod.snd c207))))
noncomputable def g4_L5 (x0 : AV) (v16 : AV) : Car → Option (Car ⊕ Nat × Car) := fun c19 => unc (Prod.fst c19) fun v20 l21 => asB v20 fun b22 => unc l21 fun v23 l24 => asI .i64 v23 fun n25 => un0 l24 (lenS x0 fun k26 =>
 ifB (decide (n25 < (↑k26 : Int))) (callS (orc vE) 15 [v16] (Prod.snd c19) fun v27 st28 _x => bindO (loopO (g4_L2 v16 v27) ([AV.bool b22, AV.nils, AV.nils, AV.int .i64 0], st28)) fun c112 => unc (Prod.fst (Prod.snd
 c112)) fun v113 l114 => asB v113 fun b115 => unc l114 fun v116 l117 => unc l117 fun v118 l119 => un0 l119 (sel2 (Prod.fst c112) (idxA 5 x0 n25 (Prod.snd (Prod.snd c112)) fun v120 _x => fldA 0 v120 fun v122 => loadS 1
 false v122 (Prod.snd (Prod.snd c112)) fun v123 _x => asI .u8 v123 fun n125 => bindO (ifB (n125 == 0) (idxA 5 x0 n25 (Prod.snd (Prod.snd c112)) fun v126 _x => fldA 1 v126 fun v128 => loadS 1 false v128 (Prod.snd
 (Prod.snd c112)) fun v129 _x => asS v129 fun l131 => idxA 5 x0 n25 (Prod.snd (Prod.snd c112)) fun v132 _x => fldA 2 v132 fun v134 => loadS 1 false v134 (Prod.snd (Prod.snd c112)) fun v135 _x => asI .i64 v135 fun n137 =>
 idxA 5 x0 n25 (Prod.snd (Prod.snd c112)) fun v138 _x => fldA 3 v138 fun v140 => loadS 1 false v140 (Prod.snd (Prod.snd c112)) fun v141 _x => asS v141 fun l143 => callS (orc vE) 10 [v16, AV.str l131, AV.int .i64 n137,
 AV.str l143] (Prod.snd (Prod.snd c112)) fun v144 st145 _x => asI .i64 v144 fun n147 => some ([AV.int .i64 n147], st145)) (bindO (ifB (n125 == 1) (idxA 5 x0 n25 (Prod.snd (Prod.snd c112)) fun v148 l149 => fldA 1 v148 fun
 v150 => loadS 1 false v150 (Prod.snd (Prod.snd c112)) fun v151 l152 => asS v151 fun l153 => idxA 5 x0 n25 (Prod.snd (Prod.snd c112)) fun v154 l155 => fldA 2 v154 fun v156 => loadS 1 false v156 (Prod.snd (Prod.snd c112))
 fun v157 l158 => asI .i64 v157 fun n159 => idxA 5 x0 n25 (Prod.snd (Prod.snd c112)) fun v160 _x => fldA 4 v160 fun v162 => loadS 1 false v162 (Prod.snd (Prod.snd c112)) fun v163 _x => callS (orc vE) 12 [v163] (Prod.snd
 (Prod.snd c112)) fun v165 st166 x167 => chk (apart (Fx.mk l158 Did.kept) x167 && (apart (Fx.mk [] Did.kept) x167 && (apart (Fx.mk l155 Did.kept) x167 && (apart (Fx.mk [] Did.kept) x167 && (apart (Fx.mk [] Did.kept) x167
 && (apart (Fx.mk l152 Did.kept) x167 && (apart (Fx.mk [] Did.kept) x167 && (apart (Fx.mk l149 Did.kept) x167 && (apart (Fx.mk [] Did.kept) x167 && (apart (Fx.mk [] Did.kept) x167 && (apart (Fx.mk [] Did.kept) x167 &&
 true))))))))))) (callS (orc vE) 11 [v16, AV.str l153, AV.int .i64 n159, v165] st166 fun v168 st169 _x => asI .i64 v168 fun n171 => some ([AV.int .i64 n171], st169))) (bindO (ifB (n125 == 2) (idxA 5 x0 n25 (Prod.snd
 (Prod.snd c112)) fun v172 _x => fldA 1 v172 fun v174 => loadS 1 false v174 (Prod.snd (Prod.snd c112)) fun v175 _x => asS v175 fun l177 => callS (orc vE) 18 [v16, AV.str l177] (Prod.snd (Prod.snd c112)) fun v178 st179 _x
 => asI .i64 v178 fun n181 => some ([AV.int .i64 n181], st179)) (some ([AV.int .i64 5], Prod.snd (Prod.snd c112)))) fun c182 => unc (Prod.fst c182) fun v183 l184 => asI .i64 v183 fun n185 => un0 l184 (some ([AV.int .i64
 n185], Prod.snd c182)))) fun c186 => unc (Prod.fst c186) fun v187 l188 => asI .i64 v187 fun n189 => un0 l188 (some ([AV.int .i64 n189], Prod.snd c186)))) fun c190 => unc (Prod.fst c190) fun v191 l192 => asI .i64 v191
 fun n193 => un0 l192 (callS (orc vE) 15 [v16] (Prod.snd c190) fun v194 st195 _x => bindO (ifB (n193 != 0) (callS (orc vE) 19 [v27, v194] st195 fun v197 st198 _x => asB v197 fun b200 => ifB (!b200) (some ([AV.bool true],
 st198)) (lenS v194 fun k201 => some ([AV.bool (decide ((↑k201 : Int) > 32))], st198))) (lenS v194 fun k202 => some ([AV.bool (decide ((↑k202 : Int) > 32))], st195))) fun c203 => unc (Prod.fst c203) fun v204 l205 => asB
 v204 fun b206 => un0 l205 (ifB b206 (some (Sum.inr (1, [AV.bool false], Prod.snd c203))) (bindO (loopO (g4_L4 x0 v16 n25 v27 v116 v118 n193) ([AV.bool b115, AV.int .i64 0], Prod.snd c203)) fun c322 => unc (Prod.fst
 (Prod.snd c322)) fun v323 l324 => asB v323 fun b325 => un0 l324 (sel2 (Prod.fst c322) (letV (IntKind.wrap .i64 (n25 + 1)) fun n326 => some (Sum.inl ([AV.bool b325, AV.int .i64 n326], Prod.snd (Prod.snd c322)))) fun _x
 => some (Sum.inr (1, [AV.bool b325], Prod.snd (Prod.snd c322)))))))) fun _x => some (Sum.inr (1, [AV.bool b115], Prod.snd (Prod.snd c112))))) (some (Sum.inr (0, [AV.bool b22], Prod.snd c19))))
noncomputable def g4 : AV → Option AV := fun x0 => bindO (callS (orc vE) 7 [] (St.mk 0 0 Tr.leaf) fun v0 st1 _x => asB v0 fun b3 => ifB (!b3) (some ([AV.bool true], st1)) (callS (orc vE) 8 [x0] st1 fun v4 st5 _x => asB
 v4 fun b7 => some ([AV.bool b7], st5))) fun c8 => unc (Prod.fst c8) fun v9 l10 => asB v9 fun b11 => un0 l10 (ifB b11 (callS (orc vE) 7 [] (Prod.snd c8) fun v12 _x _x_1 => asB v12 fun b15 => some (AV.bool b15)) (callS
 (orc vE) 9 [] (Prod.snd c8) fun v16 st17 _x => bindO (loopO (g4_L5 x0 v16) ([AV.bool false, AV.int .i64 0], st17)) fun c329 => unc (Prod.fst (Prod.snd c329)) fun v330 l331 => asB v330 fun b332 => un0 l331 (sel2
 (Prod.fst c329) (some (AV.bool true)) fun _x => some (AV.bool b332))))
theorem g4_eq (x0 : AV) : bareS vE 4 [x0] = g4 x0 := by kernel_rfl
end Go.Proofs.YticccmpaekphgaaDoor.Vm
/- texts, ints; what stays: the inner loops. -/
set_option maxRecDepth 100000
set_option linter.unusedSimpArgs false
set_option maxHeartbeats 1000000
namespace Go.Proofs.YticccmpaekphgaaDoor.Vm
open Go Go.VM Go.Proofs Go.Store Go.Lib T

theorem callS_strip {β : Type} {E : Env} {f : FuncId} {args args' : List AV} {v : AV} (st : St) (K : Kv β) (hf : E.full f = false) (hs : args.map strip = args') (hb : bares args' = true) (h : (orc E).bare f args' = some v) :
    callS (orc E) f args st K = K v st q0 := by
  have h1 : (bares (args.map strip) && !(orc E).full f) = true := by
    rw [hs, hb]
    show (true && !E.full f) = true
    rw [hf]; rfl
  unfold callS outS callO
  rw [h1, hs, h]
  rfl
theorem own_strip {st : St} {z : Nat} {e : TypeId} {v : AV} {es : List AV} (h : Own st z e v es) : ∃ x, strip v = x ∧ IsSl z x es := by
  rcases h with ⟨_, hl, ⟨rfl | rfl, rfl⟩ | rfl | ⟨k, rfl, _, _⟩⟩
  · exact ⟨.nils, rfl, IsSl.nils⟩
  · exact ⟨.es, rfl, IsSl.emp⟩
  · exact ⟨.sl z es .shut, rfl, IsSl.shut hl⟩
  · exact ⟨.sl z es .wide, rfl, IsSl.wide hl⟩
theorem own_fit1 {st : St} {z : Nat} {e : TypeId} {v : AV} {es : List AV} (h : Own st z e v es) : ∃ x, IsSl z x es ∧ ∀ {β : Type} (K : AV → Option β), fit1 v K = K x := by
  rcases h with ⟨_, hl, ⟨rfl | rfl, rfl⟩ | rfl | ⟨k, rfl, _, _⟩⟩
  · exact ⟨.nils, IsSl.nils, fun K => rfl⟩
  · exact ⟨.es, IsSl.emp, fun K => rfl⟩
  · exact ⟨.sl z es .shut, IsSl.shut hl, fun K => rfl⟩
  · exact ⟨.sl z es .wide, IsSl.wide hl, fun K => rfl⟩
theorem sizes_one {z : Nat} {x : AV} {es : List AV} (h : IsSl z x es) : sizesOk 1 [x] = true := by
  rcases h.2 with ⟨rfl | rfl, rfl⟩ | rfl | rfl <;> rfl
section
variable {x y : AV}
theorem tl1 {β : Type} (v : AV) (l : List AV) (K : AV → Option β) : bindO (takeO 1 false (v :: l)) K = K v := rfl
theorem texts_loop {a b : List B} (hx : IsSl 1 x (a.map AV.str)) (hy : IsSl 1 y (b.map AV.str)) (hl : a.length = b.length) (st : St) : ∀ (m : List B) (i : Nat), a.drop i = m →
    ∃ r c, loopO (g19_L1 x y) ([.bool false, .int .i64 (i : Int)], st) = some (r, [.bool c], st) ∧ (m = b.drop i → r = 0) ∧ (m ≠ b.drop i → r = 1 ∧ c = false)
  | [], i, hd => by
    have := List.drop_eq_nil_iff.1 hd
    have q : ¬ (i : Int) < ((a.map AV.str).length : Int) := by rw [List.length_map]; omega
    refine ⟨0, false, loopO_inr ?_, fun _ => rfl, fun h => absurd (List.drop_eq_nil_iff.2 (by omega)).symm h⟩
    simp only [g19_L1, unc_cons, asI_int, asB_bool, un0_nil, hx.len, ifB_decide, if_neg q]
  | u :: m, i, hd => by
    obtain ⟨hg, hdr, hlt⟩ := drop_cons hd
    have q : (i : Int) < ((a.map AV.str).length : Int) := by rw [List.length_map]; omega
    obtain ⟨w, hw⟩ : ∃ w, b[i]? = some w := ⟨b[i], List.getElem?_eq_getElem (by omega)⟩
    have hbd : b.drop i = w :: b.drop (i + 1) := by
      have hi : i < b.length := by omega
      rw [List.drop_eq_getElem_cons hi]
      rw [List.getElem?_eq_getElem hi] at hw
      cases hw; rfl
    have hx2 : (a.map AV.str)[i]? = some (.str u) := by rw [List.getElem?_map, hg]; rfl
    have hy2 : (b.map AV.str)[i]? = some (.str w) := by rw [List.getElem?_map, hw]; rfl
    have ix : ∀ {β : Type} (K : AV → List Nat → Option β), idxA 1 x (i : Int) st K = K (.ip [.str u]) [] := fun K => hx.idx hx2 st K
    have iy : ∀ {β : Type} (K : AV → List Nat → Option β), idxA 1 y (i : Int) st K = K (.ip [.str w]) [] := fun K => hy.idx hy2 st K
    have hw1 : IntKind.wrap .i64 ((i : Int) + 1) = ((i + 1 : Nat) : Int) := wrapA1 (by have := hx.1; rw [List.length_map] at this; omega)
    by_cases huw : u = w
    · obtain ⟨r, c, e, h1, h2⟩ := texts_loop hx hy hl st m (i + 1) hdr
      have hb : (u == w) = true := beq_iff_eq.2 huw
      refine ⟨r, c, (loopO_inl ?_).trans e, fun h => h1 ?_, fun h => h2 fun h' => h ?_⟩
      · simp only [g19_L1, unc_cons, asI_int, asB_bool, un0_nil, hx.len, ifB_decide, if_pos q, ix, iy, loadS_ip, tl1, asS_str, hb, Bool.not_true, ifB_false, letV_eq, hw1]
      · rw [hbd] at h; injection h
      · rw [hbd, h', huw]
    · have hb : (u == w) = false := beq_eq_false_iff_ne.2 huw
      refine ⟨1, false, loopO_inr ?_, fun h => ?_, fun _ => ⟨rfl, rfl⟩⟩
      · simp only [g19_L1, unc_cons, asI_int, asB_bool, un0_nil, hx.len, ifB_decide, if_pos q, ix, iy, loadS_ip, tl1, asS_str, hb, Bool.not_false, ifB_true]
      · rw [hbd] at h; injection h with h _; exact absurd h huw
theorem texts_ok {a b : List B} (hx : IsSl 1 x (a.map AV.str)) (hy : IsSl 1 y (b.map AV.str)) : (orc vE).bare 19 [x, y] = some (.bool (decide (a = b))) := by
  refine bare_of rfl ((g19_eq _ _).trans ?_)
  by_cases hl : a.length = b.length
  · obtain ⟨r, c, e, h1, h2⟩ := texts_loop hx hy hl (St.mk 0 0 Tr.leaf) a 0 rfl
    have e : loopO (g19_L1 x y) ([.bool false, .int .i64 0], St.mk 0 0 Tr.leaf) = _ := e
    have q : ((a.map AV.str).length : Int) = ((b.map AV.str).length : Int) := by rw [List.length_map, List.length_map, hl]
    by_cases hab : a = b
    · have hr := h1 hab
      subst hr
      simp only [g19, hx.len, hy.len, ifB_bne, if_pos q, e, bindO_ok, unc_cons, asB_bool, un0_nil, sel2_zero, decide_eq_true hab]
    · obtain ⟨hr, hc⟩ := h2 hab
      subst hr; subst hc
      simp only [g19, hx.len, hy.len, ifB_bne, if_pos q, e, bindO_ok, unc_cons, asB_bool, un0_nil, sel2_one, decide_eq_false hab]
  · have q : ¬ ((a.map AV.str).length : Int) = ((b.map AV.str).length : Int) := by rw [List.length_map, List.length_map]; omega
    have hab : a ≠ b := fun h => hl (by rw [h])
    simp only [g19, hx.len, hy.len, ifB_bne, if_neg q, decide_eq_false hab]
def inV (n : Int) : AV := .int .i64 n
theorem ints_loop {a b : List Int} (hx : IsSl 1 x (a.map inV)) (hy : IsSl 1 y (b.map inV)) (hl : a.length = b.length) (st : St) : ∀ (m : List Int) (i : Nat), a.drop i = m →
    ∃ r c, loopO (g20_L1 x y) ([.bool false, .int .i64 (i : Int)], st) = some (r, [.bool c], st) ∧ (m = b.drop i → r = 0) ∧ (m ≠ b.drop i → r = 1 ∧ c = false)
  | [], i, hd => by
    have := List.drop_eq_nil_iff.1 hd
    have q : ¬ (i : Int) < ((a.map inV).length : Int) := by rw [List.length_map]; omega
    refine ⟨0, false, loopO_inr ?_, fun _ => rfl, fun h => absurd (List.drop_eq_nil_iff.2 (by omega)).symm h⟩
    simp only [g20_L1, unc_cons, asI_int, asB_bool, un0_nil, hx.len, ifB_decide, if_neg q]
  | u :: m, i, hd => by
    obtain ⟨hg, hdr, hlt⟩ := drop_cons hd
    have q : (i : Int) < ((a.map inV).length : Int) := by rw [List.length_map]; omega
    obtain ⟨w, hw⟩ : ∃ w, b[i]? = some w := ⟨b[i], List.getElem?_eq_getElem (by omega)⟩
    have hbd : b.drop i = w :: b.drop (i + 1) := by
      have hi : i < b.length := by omega
      rw [List.drop_eq_getElem_cons hi]
      rw [List.getElem?_eq_getElem hi] at hw
      cases hw; rfl
    have hx2 : (a.map inV)[i]? = some (inV u) := by rw [List.getElem?_map, hg]; rfl
    have hy2 : (b.map inV)[i]? = some (inV w) := by rw [List.getElem?_map, hw]; rfl
    have ix : ∀ {β : Type} (K : AV → List Nat → Option β), idxA 1 x (i : Int) st K = K (.ip [.int .i64 u]) [] := fun K => hx.idx hx2 st K
    have iy : ∀ {β : Type} (K : AV → List Nat → Option β), idxA 1 y (i : Int) st K = K (.ip [.int .i64 w]) [] := fun K => hy.idx hy2 st K
    have hw1 : IntKind.wrap .i64 ((i : Int) + 1) = ((i + 1 : Nat) : Int) := wrapA1 (by have := hx.1; rw [List.length_map] at this; omega)
    by_cases huw : u = w
    · obtain ⟨r, c, e, h1, h2⟩ := ints_loop hx hy hl st m (i + 1) hdr
      refine ⟨r, c, (loopO_inl ?_).trans e, fun h => h1 ?_, fun h => h2 fun h' => h ?_⟩
      · simp only [g20_L1, unc_cons, asI_int, asB_bool, un0_nil, hx.len, ifB_decide, if_pos q, ix, iy, loadS_ip, tl1, ifB_bne, if_pos huw, letV_eq, hw1]
      · rw [hbd] at h; injection h
      · rw [hbd, h', huw]
    · refine ⟨1, false, loopO_inr ?_, fun h => ?_, fun _ => ⟨rfl, rfl⟩⟩
      · simp only [g20_L1, unc_cons, asI_int, asB_bool, un0_nil, hx.len, ifB_decide, if_pos q, ix, iy, loadS_ip, tl1, ifB_bne, if_neg huw]
      · rw [hbd] at h; injection h with h _; exact absurd h huw
theorem ints_ok {a b : List Int} (hx : IsSl 1 x (a.map inV)) (hy : IsSl 1 y (b.map inV)) : (orc vE).bare 20 [x, y] = some (.bool (decide (a = b))) := by
  refine bare_of rfl ((g20_eq _ _).trans ?_)
  by_cases hl : a.length = b.length
  · obtain ⟨r, c, e, h1, h2⟩ := ints_loop hx hy hl (St.mk 0 0 Tr.leaf) a 0 rfl
    have e : loopO (g20_L1 x y) ([.bool false, .int .i64 0], St.mk 0 0 Tr.leaf) = _ := e
    have q : ((a.map inV).length : Int) = ((b.map inV).length : Int) := by rw [List.length_map, List.length_map, hl]
    by_cases hab : a = b
    · have hr := h1 hab
      subst hr
      simp only [g20, hx.len, hy.len, ifB_bne, if_pos q, e, bindO_ok, unc_cons, asB_bool, un0_nil, sel2_zero, decide_eq_true hab]
    · obtain ⟨hr, hc⟩ := h2 hab
      subst hr; subst hc
      simp only [g20, hx.len, hy.len, ifB_bne, if_pos q, e, bindO_ok, unc_cons, asB_bool, un0_nil, sel2_one, decide_eq_false hab]
  · have q : ¬ ((a.map inV).length : Int) = ((b.map inV).length : Int) := by rw [List.length_map, List.length_map]; omega
    have hab : a ≠ b := fun h => hl (by rw [h])
    simp only [g20, hx.len, hy.len, ifB_bne, if_neg q, decide_eq_false hab]
theorem call_texts {s1 s2 : St} {e1 e2 : TypeId} {a b : List B} (hx : Own s1 1 e1 x (a.map AV.str)) (hy : Own s2 1 e2 y (b.map AV.str)) {β : Type} (st : St) (K : Kv β) : callS (orc vE) 19 [x, y] st K = K (.bool (decide (a = b))) st q0 := by
  obtain ⟨u, hu, hu2⟩ := own_strip hx
  obtain ⟨w, hw, hw2⟩ := own_strip hy
  exact callS_strip st K rfl (by simp only [List.map_cons, List.map_nil, hu, hw]) (by simp only [bares_cons, hu2.bare, hw2.bare]; rfl) (texts_ok hu2 hw2)
theorem call_ints {s1 : St} {e1 : TypeId} {a b : List Int} (hx : Own s1 1 e1 x (a.map inV)) (hy : IsSl 1 y (b.map inV)) {β : Type} (st : St) (K : Kv β) : callS (orc vE) 20 [x, y] st K = K (.bool (decide (a = b))) st q0 := by
  obtain ⟨u, hu, hu2⟩ := own_strip hx
  exact callS_strip st K rfl (by simp only [List.map_cons, List.map_nil, hu, hy.strip]) (by simp only [bares_cons, hu2.bare, hy.bare]; rfl) (ints_ok hu2 hy)
end
/-- Slices, one for each document. -/
def Rows (f : Dc → List AV) (out : List Dc) (W : List AV) : Prop := W.length = out.length ∧ ∀ (k : Nat) (d : Dc), out[k]? = some d → ∃ x : AV, W[k]? = some x ∧ IsSl 1 x (f d)
theorem rows_nil (f : Dc → List AV) : Rows f [] [] := ⟨rfl, fun k d h => by simp at h⟩
theorem rows_app {f : Dc → List AV} {out : List Dc} {W : List AV} (h : Rows f out W) {d : Dc} {x : AV} (hx : IsSl 1 x (f d)) : Rows f (out ++ [d]) (W ++ [x]) := by
  refine ⟨by rw [List.length_append, List.length_append, h.1]; rfl, fun k c hk => ?_⟩
  by_cases hlt : k < out.length
  · rw [List.getElem?_append_left hlt] at hk
    obtain ⟨y, h1, h2⟩ := h.2 k c hk
    exact ⟨y, by rw [List.getElem?_append_left (by rw [h.1]; exact hlt)]; exact h1, h2⟩
  · rw [List.getElem?_append_right (by omega)] at hk
    have hk0 : k - out.length = 0 := by
      by_cases hz : k - out.length = 0
      · exact hz
      · rw [List.getElem?_eq_none (by simp; omega)] at hk; cases hk
    rw [hk0] at hk
    simp only [List.getElem?_cons_zero, Option.some.injEq] at hk
    subst hk
    refine ⟨x, ?_, hx⟩
    rw [List.getElem?_append_right (by rw [h.1]; omega), h.1, hk0]
    rfl
def noL (d : Dc) : List AV := d.kept.map noV
def txV (u : Int × T) : AV := .str u.2.text
def txL (d : Dc) : List AV := d.kept.map txV
theorem noL_in (d : Dc) : noL d = (d.kept.map (·.1)).map inV := by unfold noL; rw [List.map_map]; rfl
section
variable {st0 st st' sn : St} {sp ow : Nat} {ds : List Dc} {v27 : AV}
theorem at_kept (hds : DsOk ds) {d : Dc} (hd : d ∈ ds) {n : Nat} {u : Int × T} (hu : d.kept[n]? = some u) : atT ds d.nm u.1 = some u.2.text := by
  unfold atT
  rw [docN_of hds.apart hd]
  simp only [Option.bind_some, verF_at (kept_rise (hds.ok d hd)) hu, Option.map_some]
theorem stays_L1 (hds : DsOk ds) (hn : Own sn 1 9 v27 (ds.map nmV)) {k : Nat} {d : Dc} (hk : ds[k]? = some d) {v51 : AV} {sx : St} (hx : Own sx 1 3 v51 (d.kept.map noV)) (h0 : Sto st0 sp ow ds) (b : Bool) : ∀ (m : List (Int × T)) (i : Nat) (out : List (Int × T)) (v : AV) (st : St), d.kept.drop i = m → Way st0 st v → Own st 1 9 v (out.map txV) → out.length + m.length ≤ 1000000 →
    ∃ v' st', loopO (g4_L1 (.mp sp 0) v27 (k : Int) v51) ([.bool b, v, .int .i64 (i : Int)], st) = some (0, [.bool b, v'], st') ∧ Own st' 1 9 v' ((out ++ m).map txV) ∧ Way st0 st' v'
  | [], i, out, v, st, hd, hW, ho, hl => by
    have := List.drop_eq_nil_iff.1 hd
    have q : ¬ (i : Int) < ((d.kept.map noV).length : Int) := by rw [List.length_map]; omega
    have hln : ∀ {β : Type} (K : Nat → Option β), lenS v51 K = K (d.kept.map noV).length := fun K => own_len hx K
    refine ⟨v, st, loopO_inr ?_, by simpa using ho, hW⟩
    simp only [g4_L1, unc_cons, asI_int, asB_bool, un0_nil, hln, ifB_decide, if_neg q]
  | u :: m, i, out, v, st, hd, hW, ho, hl => by
    obtain ⟨hg, hdr, hlt⟩ := drop_cons hd
    have q : (i : Int) < ((d.kept.map noV).length : Int) := by rw [List.length_map]; omega
    have hln : ∀ {β : Type} (K : Nat → Option β), lenS v51 K = K (d.kept.map noV).length := fun K => own_len hx K
    have hn2 : (ds.map nmV)[k]? = some (.str d.nm) := by rw [List.getElem?_map, hk]; rfl
    have hx2 : (d.kept.map noV)[i]? = some (.int .i64 u.1) := by rw [List.getElem?_map, hg]; rfl
    have ix : ∀ {β : Type} (st : St) (K : AV → List Nat → Option β), idxA 1 v27 (k : Int) st K = K (.ip [.str d.nm]) [] := fun st K => own_idx hn hn2 st K
    have iy : ∀ {β : Type} (st : St) (K : AV → List Nat → Option β), idxA 1 v51 (i : Int) st K = K (.ip [.int .i64 u.1]) [] := fun st K => own_idx hx hx2 st K
    have hw1 : IntKind.wrap .i64 ((i : Int) + 1) = ((i + 1 : Nat) : Int) := wrapA1 (by have := kept_len d; omega)
    obtain ⟨s1, k1, ca⟩ := call_at (h0.keeps hW.keeps) hds.ok (by have := hds.len; omega) d.nm u.1
    rw [at_kept hds (List.mem_of_getElem? hk) hg] at ca
    have ho1 := own_keep ho k1 (fun _ _ f => f)
    obtain ⟨v1, s2, x1, ho2, k2, j2, _, e2⟩ := own_fx (b := 16) [.str u.2.text] ho1 fun _ => room_of (by
      simp only [List.length_map, List.length_cons, List.length_nil] at hl ⊢; omega) (by omega) (by omega)
    have hW2 := (hW.keep k1).app k2 j2
    obtain ⟨v', st', e, o3, hW3⟩ := stays_L1 hds hn hk hx h0 b m (i + 1) (out ++ [u]) v1 s2 hdr hW2 (by rw [List.map_append]; exact ho2) (by simp only [List.length_append, List.length_cons, List.length_nil] at hl ⊢; omega)
    refine ⟨v', st', (loopO_inl ?_).trans e, by simpa using o3, hW3⟩
    simp only [g4_L1, unc_cons, asI_int, asB_bool, un0_nil, hln, ifB_decide, if_pos q, ix, iy, loadS_ip, tl1, asS_str, ca, unT_tup, nthS_zero, nthS_one, ifB_bne, if_true, e2, letV_eq, hw1]
theorem stays_L2 (hds : DsOk ds) (hn : Own sn 1 9 v27 (ds.map nmV)) (h0 : Sto st0 sp ow ds) (b : Bool) : ∀ (m : List Dc) (k : Nat) (out : List Dc) (W1 W2 : List AV) (v1 v2 : AV) (st : St), ds.drop k = m → Way st0 st v1 → Way st0 st v2 → Own st 1 43 v1 W1 → Own st 1 39 v2 W2 → Rows noL out W1 → Rows txL out W2 → out.length + m.length ≤ 1000 →
    ∃ v1' v2' W1' W2' st', loopO (g4_L2 (.mp sp 0) v27) ([.bool b, v1, v2, .int .i64 (k : Int)], st) = some (0, [.bool b, v1', v2'], st') ∧ Keeps st0 st' (fun _ => False) ∧ Own st' 1 43 v1' W1' ∧ Own st' 1 39 v2' W2' ∧ Rows noL (out ++ m) W1' ∧ Rows txL (out ++ m) W2'
  | [], k, out, W1, W2, v1, v2, st, hd, hY1, hY2, ho1, ho2, hr1, hr2, hl => by
    have := List.drop_eq_nil_iff.1 hd
    have q : ¬ (k : Int) < ((ds.map nmV).length : Int) := by rw [List.length_map]; omega
    have hln : ∀ {β : Type} (K : Nat → Option β), lenS v27 K = K (ds.map nmV).length := fun K => own_len hn K
    refine ⟨v1, v2, W1, W2, st, loopO_inr ?_, hY1.keeps, ho1, ho2, by simpa using hr1, by simpa using hr2⟩
    simp only [g4_L2, unc_cons, asI_int, asB_bool, un0_nil, hln, ifB_decide, if_neg q]
  | d :: m, k, out, W1, W2, v1, v2, st, hd, hY1, hY2, ho1, ho2, hr1, hr2, hl => by
    obtain ⟨hg, hdr, hlt⟩ := drop_cons hd
    have hlds := hds.len
    have q : (k : Int) < ((ds.map nmV).length : Int) := by rw [List.length_map]; omega
    have hln : ∀ {β : Type} (K : Nat → Option β), lenS v27 K = K (ds.map nmV).length := fun K => own_len hn K
    have hn2 : (ds.map nmV)[k]? = some (.str d.nm) := by rw [List.getElem?_map, hg]; rfl
    have ix : ∀ {β : Type} (st : St) (K : AV → List Nat → Option β), idxA 1 v27 (k : Int) st K = K (.ip [.str d.nm]) [] := fun st K => own_idx hn hn2 st K
    have hdm := List.mem_of_getElem? hg
    have hs := h0.keeps hY1.keeps
    obtain ⟨x, s1, ox, wx, ck⟩ := call_kept hs hds.ok (by omega) d.nm
    rw [docN_of hds.apart hdm] at ox ck
    simp only at ox ck
    have hs1 := hs.keeps wx.keeps
    have hkl := kept_len d
    have hkp := kept_pos (hds.ok d hdm)
    have hlx : ∀ {β : Type} (K : Nat → Option β), lenS x K = K (d.kept.map noV).length := fun K => own_len ox K
    have q1 : ¬ ((d.kept.map noV).length : Int) = 0 := by rw [List.length_map]; omega
    have q2 : decide (((d.kept.map noV).length : Int) > 8) = false := decide_eq_false (by rw [List.length_map]; omega)
    obtain ⟨y, s2, e2, oy, wy⟩ := stays_L1 hds hn hg ox hs1 b d.kept 0 [] .nils s1 rfl (way_nils s1) (Own.nils hs1.ro _ _) (by simp; omega)
    have e2 : loopO (g4_L1 (.mp sp 0) v27 (k : Int) x) ([.bool b, .nils, .int .i64 0], s1) = _ := e2
    -- was
    have k02 : Keeps st s2 (fun _ => False) := wx.keeps.trans wy.keeps
    have ho1' := own_keep ho1 k02 (fun _ _ f => f)
    have ho2' := own_keep ho2 k02 (fun _ _ f => f)
    obtain ⟨x', hx', fx⟩ := own_fit1 ox
    obtain ⟨y', hy', fy⟩ := own_fit1 oy
    have hlW1 := hr1.1
    have hlW2 := hr2.1
    have fx' : ∀ {β : Type} (K : AV → Option β), fit1 x' K = K x' := fun K => hx'.fit1 K
    have fy' : ∀ {β : Type} (K : AV → Option β), fit1 y' K = K y' := fun K => hy'.fit1 K
    obtain ⟨v1', s3, x1, o3, k3, j3, _, e3⟩ := own_fx (b := 24) [x'] ho1' fun _ => room_of (by
      simp only [List.length_cons, List.length_nil] at hl ⊢; omega) (by omega) (by omega)
    have ho2'' := own_keep ho2' k3 fun j hj hj2 => own_two ho2' ho1' (by decide) j hj hj2
    obtain ⟨v2', s4, x2, o4, k4, j4, _, e4⟩ := own_fx (b := 24) [y'] ho2'' fun _ => room_of (by
      simp only [List.length_cons, List.length_nil] at hl ⊢; omega) (by omega) (by omega)
    have o3' := own_keep o3 k4 fun j hj hj2 => own_two o3 ho2'' (by decide) j hj hj2
    have Y1 := (hY1.keep k02).app k3 j3
    have Y2 := (Way.mk Y1.keeps hY2.new).app k4 j4
    obtain ⟨a1, a2, A1, A2, st', e5, r⟩ := stays_L2 hds hn h0 b m (k + 1) (out ++ [d]) (W1 ++ [x']) (W2 ++ [y']) v1' v2' s4 hdr ⟨Y2.keeps, Y1.new⟩ Y2 o3' o4 (rows_app hr1 hx') (rows_app hr2 hy') (by simp only [List.length_append, List.length_cons, List.length_nil] at hl ⊢; omega)
    refine ⟨a1, a2, A1, A2, st', (loopO_inl ?_).trans e5, by simpa using r⟩
    have hw1 : IntKind.wrap .i64 ((k : Int) + 1) = ((k + 1 : Nat) : Int) := wrapA1 (by omega)
    have aox : ∀ {β : Type} (K : Option β), asOne x K = K := fun K => asOne_of ox.one K
    have aoy : ∀ {β : Type} (K : Option β), asOne y K = K := fun K => asOne_of oy.one K
    simp only [g4_L2, unc_cons, asI_int, asB_bool, un0_nil, hln, ifB_decide, if_pos q, ix, loadS_ip, tl1, asS_str, ck, unT_tup, nthS_zero, nthS_one, ifB_bne, if_true, hlx, ifB_beq, if_neg q1, q2, bindO_ok, ifB_false, e2, sel2_zero, aox, aoy, fx, fy, fx', fy', sizes_one hx', sizes_one hy', chk_true, e3, e4, letV_eq, hw1]
end
end Go.Proofs.YticccmpaekphgaaDoor.Vm
set_option maxRecDepth 1000000
set_option maxHeartbeats 0
namespace Go.Proofs.YticccmpaekphgaaDoor.Vm
open Go Go.VM Go.Proofs
/-- rostrum/rostrumlaw25.StoreParts -/
noncomputable def g3_L1 (x1 : AV) (v23 : AV) : Car → Option (Car ⊕ Nat × Car) := fun c45 => unc (Prod.fst c45) fun v46 l47 => asI .i64 v46 fun n48 => unc l47 fun v49 l50 => asI .i64 v49 fun n51 => un0 l50 (bindO (lenS
 x1 fun k52 => ifB (decide (n51 < (↑k52 : Int))) (some ([AV.bool (n48 == 0)], Prod.snd c45)) (some ([AV.bool false], Prod.snd c45))) fun c53 => unc (Prod.fst c53) fun v54 l55 => asB v54 fun b56 => un0 l55 (ifB b56 (letV
 (IntKind.wrap .i64 (n51 + 1)) fun n57 => letV (IntKind.wrap .i64 (n51 + 1)) fun n58 => sliceS 6 x1 (some n51) (some n58) none fun v59 => callS (orc vE) 12 [v59] (Prod.snd c53) fun v60 st61 _x => callS (orc vE) 11 [v23,
 AV.str [100], AV.int .i64 n57, v60] st61 fun v63 st64 _x => asI .i64 v63 fun n66 => letV (IntKind.wrap .i64 (n51 + 1)) fun n67 => some (Sum.inl ([AV.int .i64 n66, AV.int .i64 n67], st64))) (some (Sum.inr (0, [AV.int
 .i64 n48], Prod.snd c53)))))
noncomputable def g3 : AV → AV → Option AV := fun x0 x1 => asS x0 fun l0 => bindO (callS (orc vE) 7 [] (St.mk 0 0 Tr.leaf) fun v1 st2 _x => asB v1 fun b4 => ifB (!b4) (some ([AV.bool true], st2)) (ifB (decide
 ((↑(List.length l0) : Int) > 3000)) (some ([AV.bool true], st2)) (asOne x1 (asOne x1 (asOne x1 (fit1 x1 fun v6 => callS (orc vE) 8 [AV.sl 5 [AV.agg [AV.int .u8 0, AV.str [], AV.int .i64 0, AV.str [], v6]] Perm.shut] st2
 fun v7 st8 _x => asB v7 fun b10 => ifB b10 (some ([AV.bool true], st8)) (lenS x1 fun k11 => some ([AV.bool (decide ((↑k11 : Int) > 40))], st8)))))))) fun c12 => unc (Prod.fst c12) fun v13 l14 => asB v13 fun b15 => un0
 l14 (ifB b15 (callS (orc vE) 7 [] (Prod.snd c12) fun v16 _x _x_1 => asB v16 fun b19 => some (AV.bool b19)) (callS (orc vE) 9 [] (Prod.snd c12) fun v20 st21 _x => callS (orc vE) 9 [] st21 fun v23 st24 _x => callS (orc
 vE) 10 [v20, AV.str [100], AV.int .i64 0, AV.str l0] st24 fun v26 st27 _x => asI .i64 v26 fun n29 => callS (orc vE) 10 [v23, AV.str [100], AV.int .i64 0, AV.str l0] st27 fun v30 st31 _x => asI .i64 v30 fun n33 => bindO
 (ifB (n29 != n33) (some ([AV.bool true], st31)) (some ([AV.bool (n29 != 0)], st31))) fun c34 => unc (Prod.fst c34) fun v35 l36 => asB v35 fun b37 => un0 l36 (ifB b37 (some (AV.bool (n29 == n33))) (callS (orc vE) 12 [x1]
 (Prod.snd c34) fun v38 st39 _x => callS (orc vE) 11 [v20, AV.str [100], AV.int .i64 1, v38] st39 fun v41 st42 _x => asI .i64 v41 fun n44 => bindO (loopO (g3_L1 x1 v23) ([AV.int .i64 0, AV.int .i64 0], st42)) fun c68 =>
 unc (Prod.fst (Prod.snd c68)) fun v69 l70 => asI .i64 v69 fun n71 => un0 l70 (ifB (n44 != n71) (some (AV.bool false)) (ifB (n44 != 0) (callS (orc vE) 13 [v20, AV.str [100], AV.int .i64 0, AV.str l0] (Prod.snd (Prod.snd
 c68)) fun v72 _x _x_1 => asB v72 fun b75 => some (AV.bool b75)) (callS (orc vE) 14 [v20, AV.str [100]] (Prod.snd (Prod.snd c68)) fun v76 st77 _x => unT v76 fun l79 => nthS l79 0 fun v80 => asI .i64 v80 fun _x => unT v76
 fun l82 => nthS l82 1 fun v83 => asS v83 fun l84 => unT v76 fun l85 => nthS l85 2 fun v86 => asI .i64 v86 fun n87 => callS (orc vE) 14 [v23, AV.str [100]] st77 fun v88 st89 _x => unT v88 fun l91 => nthS l91 0 fun v92 =>
 asI .i64 v92 fun _x => unT v88 fun l94 => nthS l94 1 fun v95 => asS v95 fun l96 => unT v88 fun l97 => nthS l97 2 fun v98 => asI .i64 v98 fun n99 => bindO (ifB (n87 == 0) (ifB (n99 == 0) (some ([AV.bool (l84 == l96)],
 st89)) (some ([AV.bool false], st89))) (some ([AV.bool false], st89))) fun c100 => unc (Prod.fst c100) fun v101 l102 => asB v101 fun b103 => un0 l102 (some (AV.bool b103)))))))))
end Go.Proofs.YticccmpaekphgaaDoor.Vm
/- The law: changes in one Change, or each in its own. -/
set_option maxRecDepth 100000
set_option linter.unusedSimpArgs false
set_option maxHeartbeats 4000000
namespace Go.Proofs.YticccmpaekphgaaDoor.Vm
open Go Go.VM Go.Proofs Go.Store Go.Lib T

section
variable {st st' : St} {sp ow : Nat} {ds : List Dc}
theorem call_new (st : St) (hr : st.ro = 0) : ∃ st', Sto st' st.h st.h [] ∧ Keeps st st' (fun _ => False) ∧ st.h < st'.h ∧ ∀ {β : Type} (K : Kv β), callS (orc vE) 9 [] st K = K (.mp st.h 0) st' ⟨[], .all st st'⟩ := by
  obtain ⟨st', e, h, k, hl⟩ := new_store st hr
  exact ⟨st', h, k, hl, fun K => callS_wide K rfl rfl e⟩
theorem call_openS {s1 : St} {nm : B} {no : Int} {tx : B} {r : AV} (e : (orc vE).wide 10 [.mp sp 0, .str nm, .int .i64 no, .str tx] st = some (r, s1)) {β : Type} (K : Kv β) : callS (orc vE) 10 [.mp sp 0, .str nm, .int .i64 no, .str tx] st K = K r s1 ⟨[], .all st s1⟩ := callS_wide K rfl (bares_mp _ _ _ _) e
theorem call_changeS {s1 : St} {nm : B} {no : Int} {x r : AV} (e : (orc vE).wide 11 [.mp sp 0, .str nm, .int .i64 no, x] st = some (r, s1)) {β : Type} (K : Kv β) : callS (orc vE) 11 [.mp sp 0, .str nm, .int .i64 no, x] st K = K r s1 ⟨[], .all st s1⟩ := callS_wide K rfl (bares_mp _ _ _ _) e
end
end Go.Proofs.YticccmpaekphgaaDoor.Vm
/- The law: what stays. -/
set_option maxRecDepth 100000
set_option linter.unusedSimpArgs false
set_option maxHeartbeats 4000000
namespace Go.Proofs.YticccmpaekphgaaDoor.Vm
open Go Go.VM Go.Proofs Go.Store Go.Lib T

section
variable {st0 st st' sn : St} {sp ow : Nat} {ds ds' : List Dc} {v27 v116 v118 : AV}
def mineB (d : Dc) (s : Stp) (e : Nat) : Bool := decide (d.nm = s.name ∧ e = 0)
theorem stays_L3 (hds : DsOk ds) (hds' : DsOk ds') {s : Stp} {e : Nat} (hdo : Does ds s e ds') (hn : Own sn 1 9 v27 (ds.map nmV)) {k : Nat} {d : Dc} (hk : ds[k]? = some d) {s1 s2 : St} {W1 W2 : List AV} (h1 : Own s1 1 43 v116 W1) (h2 : Own s2 1 39 v118 W2) (r1 : Rows noL ds W1) (r2 : Rows txL ds W2) (b : Bool) (h0 : Sto st0 sp ow ds') :
    ∀ (m : List (Int × T)) (i : Nat) (st : St), d.kept.drop i = m → Keeps st0 st (fun _ => False) →
    ∃ st', loopO (g4_L3 (.mp sp 0) v27 v116 v118 (k : Int) (mineB d s e)) ([.bool b, .int .i64 (i : Int)], st) = some (0, [.bool b], st') ∧ Keeps st0 st' (fun _ => False)
  | [], i, st, hd, hK => by
    have := List.drop_eq_nil_iff.1 hd
    obtain ⟨x, hx, hx2⟩ := r1.2 k d hk
    have q : ¬ (i : Int) < ((noL d).length : Int) := by unfold noL; rw [List.length_map]; omega
    have ix : ∀ {β : Type} (st : St) (K : AV → List Nat → Option β), idxA 1 v116 (k : Int) st K = K (.ip x.cells) [] := fun st K => own_idx h1 hx st K
    have hc : x.cells = [x] := by rcases hx2.2 with ⟨rfl | rfl, _⟩ | rfl | rfl <;> rfl
    refine ⟨st, loopO_inr ?_, hK⟩
    simp only [g4_L3, unc_cons, asI_int, asB_bool, un0_nil, ix, hc, loadS_ip, tl1, hx2.len, ifB_decide, if_neg q]
  | u :: m, i, st, hd, hK => by
    obtain ⟨hg, hdr, hlt⟩ := drop_cons hd
    obtain ⟨x, hx, hx2⟩ := r1.2 k d hk
    obtain ⟨y, hy, hy2⟩ := r2.2 k d hk
    have q : (i : Int) < ((noL d).length : Int) := by unfold noL; rw [List.length_map]; omega
    have hcx : x.cells = [x] := by rcases hx2.2 with ⟨rfl | rfl, _⟩ | rfl | rfl <;> rfl
    have hcy : y.cells = [y] := by rcases hy2.2 with ⟨rfl | rfl, _⟩ | rfl | rfl <;> rfl
    have hn2 : (ds.map nmV)[k]? = some (.str d.nm) := by rw [List.getElem?_map, hk]; rfl
    have ix : ∀ {β : Type} (st : St) (K : AV → List Nat → Option β), idxA 1 v116 (k : Int) st K = K (.ip x.cells) [] := fun st K => own_idx h1 hx st K
    have iy : ∀ {β : Type} (st : St) (K : AV → List Nat → Option β), idxA 1 v118 (k : Int) st K = K (.ip y.cells) [] := fun st K => own_idx h2 hy st K
    have inn : ∀ {β : Type} (st : St) (K : AV → List Nat → Option β), idxA 1 v27 (k : Int) st K = K (.ip [.str d.nm]) [] := fun st K => own_idx hn hn2 st K
    have hx3 : (noL d)[i]? = some (.int .i64 u.1) := by unfold noL; rw [List.getElem?_map, hg]; rfl
    have hy3 : (txL d)[i]? = some (.str u.2.text) := by unfold txL; rw [List.getElem?_map, hg]; rfl
    have jx : ∀ {β : Type} (st : St) (K : AV → List Nat → Option β), idxA 1 x (i : Int) st K = K (.ip [.int .i64 u.1]) [] := fun st K => hx2.idx hx3 st K
    have jy : ∀ {β : Type} (st : St) (K : AV → List Nat → Option β), idxA 1 y (i : Int) st K = K (.ip [.str u.2.text]) [] := fun st K => hy2.idx hy3 st K
    have hw1 : IntKind.wrap .i64 ((i : Int) + 1) = ((i + 1 : Nat) : Int) := wrapA1 (by have := kept_len d; omega)
    have hdm := List.mem_of_getElem? hk
    have hold := at_kept hds hdm hg
    have hs := h0.keeps hK
    obtain ⟨s3, k3, ca⟩ := call_at hs hds'.ok (by have := hds'.len; omega) d.nm u.1
    obtain ⟨st', e', hK'⟩ := stays_L3 hds hds' hdo hn hk h1 h2 r1 r2 b h0 m (i + 1) s3 hdr (hK.trans k3)
    refine ⟨st', (loopO_inl ?_).trans e', hK'⟩
    cases ha : atT ds' d.nm u.1 with
    | none =>
      rw [ha] at ca
      have hm : mineB d s e = true := by
        unfold mineB
        by_cases hc : d.nm = s.name ∧ e = 0
        · exact decide_eq_true hc
        · exfalso
          have := does_other hdo hc
          unfold atT at ha hold
          rw [this, hold] at ha
          cases ha
      have q5 : ¬ ((5 : Int) = 0) := by decide
      simp only [g4_L3, unc_cons, asI_int, asB_bool, asS_str, un0_nil, ix, hcx, loadS_ip, tl1, hx2.len, ifB_decide, if_pos q, inn, jx, ca, unT_tup, nthS_zero, nthS_one, ifB_beq, ifB_bne, if_neg q5, hm, Bool.not_true, bindO_ok, ifB_false, letV_eq, hw1]
    | some t =>
      rw [ha] at ca
      have ht := does_text hds hdo hold ha
      have hb : (t == u.2.text) = true := beq_iff_eq.2 ht
      simp only [g4_L3, unc_cons, asI_int, asB_bool, asS_str, un0_nil, ix, iy, hcx, hcy, loadS_ip, tl1, hx2.len, ifB_decide, if_pos q, inn, jx, jy, ca, unT_tup, nthS_zero, nthS_one, ifB_beq, ifB_bne, if_true, hb, Bool.not_true, bindO_ok, ifB_false, letV_eq, hw1]
theorem stays_L4 (hds : DsOk ds) (hds' : DsOk ds') {s : Stp} {e : Nat} (hdo : Does ds s e ds') (hn : Own sn 1 9 v27 (ds.map nmV)) {s1 s2 : St} {W1 W2 : List AV} (h1 : Own s1 1 43 v116 W1) (h2 : Own s2 1 39 v118 W2) (r1 : Rows noL ds W1) (r2 : Rows txL ds W2)
    {x0 v : AV} {es : List AV} (hx0 : IsSl 5 x0 es) {j : Nat} (hj : es[j]? = some (.agg [.int .u8 s.kind, .str s.name, .int .i64 s.no, .str s.text, v])) (b : Bool) (h0 : Sto st0 sp ow ds') :
    ∀ (m : List Dc) (k : Nat) (st : St), ds.drop k = m → Keeps st0 st (fun _ => False) →
    ∃ st', loopO (g4_L4 x0 (.mp sp 0) (j : Int) v27 v116 v118 (e : Int)) ([.bool b, .int .i64 (k : Int)], st) = some (0, [.bool b], st') ∧ Keeps st0 st' (fun _ => False)
  | [], k, st, hd, hK => by
    have := List.drop_eq_nil_iff.1 hd
    have q : ¬ (k : Int) < ((ds.map nmV).length : Int) := by rw [List.length_map]; omega
    have hln : ∀ {β : Type} (K : Nat → Option β), lenS v27 K = K (ds.map nmV).length := fun K => own_len hn K
    refine ⟨st, loopO_inr ?_, hK⟩
    simp only [g4_L4, unc_cons, asI_int, asB_bool, un0_nil, hln, ifB_decide, if_neg q]
  | d :: m, k, st, hd, hK => by
    obtain ⟨hg, hdr, hlt⟩ := drop_cons hd
    have hlds := hds.len
    have q : (k : Int) < ((ds.map nmV).length : Int) := by rw [List.length_map]; omega
    have hln : ∀ {β : Type} (K : Nat → Option β), lenS v27 K = K (ds.map nmV).length := fun K => own_len hn K
    have hn2 : (ds.map nmV)[k]? = some (.str d.nm) := by rw [List.getElem?_map, hg]; rfl
    have inn : ∀ {β : Type} (st : St) (K : AV → List Nat → Option β), idxA 1 v27 (k : Int) st K = K (.ip [.str d.nm]) [] := fun st K => own_idx hn hn2 st K
    obtain ⟨x, hx, hx2⟩ := r1.2 k d hg
    have hcx : x.cells = [x] := by rcases hx2.2 with ⟨rfl | rfl, _⟩ | rfl | rfl <;> rfl
    have ix : ∀ {β : Type} (st : St) (K : AV → List Nat → Option β), idxA 1 v116 (k : Int) st K = K (.ip x.cells) [] := fun st K => own_idx h1 hx st K
    have iz : ∀ {β : Type} (st : St) (K : AV → List Nat → Option β), idxA 5 x0 (j : Int) st K = K (.ip [.int .u8 s.kind, .str s.name, .int .i64 s.no, .str s.text, v]) [] := fun st K => hx0.idx hj st K
    have hw1 : IntKind.wrap .i64 ((k : Int) + 1) = ((k + 1 : Nat) : Int) := wrapA1 (by omega)
    have hdm := List.mem_of_getElem? hg
    have hdoc := docN_of hds.apart hdm
    have hs := h0.keeps hK
    have hlds' := hds'.len
    obtain ⟨w, s3, ow3, w3, ck⟩ := call_kept hs hds'.ok (by omega) d.nm
    obtain ⟨s4, e4', k4⟩ := stays_L3 hds hds' hdo hn hg h1 h2 r1 r2 b h0 d.kept 0 s3 rfl (hK.trans w3.keeps)
    have e4 : loopO (g4_L3 (.mp sp 0) v27 v116 v118 (k : Int) (mineB d s e)) ([.bool b, .int .i64 0], s3) = some (0, [.bool b], s4) := e4'
    clear e4'
    obtain ⟨st', e5, k5⟩ := stays_L4 hds hds' hdo hn h1 h2 r1 r2 hx0 hj b h0 m (k + 1) s4 hdr k4
    refine ⟨st', (loopO_inl ?_).trans e5, k5⟩
    by_cases hm : d.nm = s.name ∧ e = 0
    · have hmb : mineB d s e = true := decide_eq_true hm
      obtain ⟨hm1, rfl⟩ := hm
      rw [hmb] at e4
      have hb : (d.nm == s.name) = true := beq_iff_eq.2 hm1
      by_cases hk2 : s.kind = 2
      · have hgone := does_gone hds hdo hk2 hm1 (by rw [hdoc]; simp)
        rw [hgone] at ck
        simp only [g4_L4, unc_cons, asI_int, asB_bool, asS_str, un0_nil, hln, ifB_decide, if_pos q, inn, loadS_ip, tl1, ck, unT_tup, nthS_zero, nthS_one, iz, fldA_ip, List.drop_zero, drop1, hb, ifB_true, bindO_ok, beq_self_eq_true, Bool.not_true, ifB_false, ifB_beq, if_pos hk2, bne_self_eq_false]
        simp only [if_true, Int.natCast_zero, beq_self_eq_true, Bool.not_true, ifB_false, ifB_true, ifB_beq, if_pos hk2, iz, fldA_ip, List.drop_zero, loadS_ip, tl1, asI_int, bindO_ok, unc_cons, asB_bool, un0_nil, bne_self_eq_false, e4, sel2_zero, letV_eq, hw1]
      · simp only [g4_L4, unc_cons, asI_int, asB_bool, asS_str, un0_nil, hln, ifB_decide, if_pos q, inn, loadS_ip, tl1, ck, unT_tup, nthS_zero, nthS_one, iz, fldA_ip, List.drop_zero, drop1, hb, ifB_true, bindO_ok]
        simp only [Int.natCast_zero, beq_self_eq_true, Bool.not_true, ifB_false, ifB_true, ifB_beq, if_neg hk2, iz, fldA_ip, List.drop_zero, loadS_ip, tl1, asI_int, bindO_ok, unc_cons, asB_bool, un0_nil, e4, sel2_zero, letV_eq, hw1]
    · have hmb : mineB d s e = false := decide_eq_false hm
      rw [hmb] at e4
      have hsame := does_other hdo hm
      rw [hsame, hdoc] at ck ow3
      simp only at ck ow3
      have ci := fun {β : Type} (st : St) (K : Kv β) => call_ints (x := w) (y := x) (a := d.kept.map (·.1)) (b := d.kept.map (·.1)) (by rw [← noL_in]; exact ow3) (by rw [← noL_in]; exact hx2) st K
      rw [decide_eq_true (rfl : d.kept.map (·.1) = d.kept.map (·.1))] at ci
      by_cases hnm : d.nm = s.name
      · have hb : (d.nm == s.name) = true := beq_iff_eq.2 hnm
        have he : ¬ ((e : Int) = 0) := by
          intro h; exact hm ⟨hnm, by omega⟩
        have heb : ((e : Int) == 0) = false := beq_eq_false_iff_ne.2 he
        simp only [g4_L4, unc_cons, asI_int, asB_bool, asS_str, un0_nil, hln, ifB_decide, if_pos q, inn, loadS_ip, tl1, ck, unT_tup, nthS_zero, nthS_one, iz, fldA_ip, List.drop_zero, drop1, hb, ifB_true, heb, bindO_ok, Bool.not_false, ifB_bne, if_true, ix, hcx, ci, Bool.not_true, ifB_false, e4, sel2_zero, letV_eq, hw1]
      · have hb : (d.nm == s.name) = false := beq_eq_false_iff_ne.2 hnm
        simp only [g4_L4, unc_cons, asI_int, asB_bool, asS_str, un0_nil, hln, ifB_decide, if_pos q, inn, loadS_ip, tl1, ck, unT_tup, nthS_zero, nthS_one, iz, fldA_ip, List.drop_zero, drop1, hb, ifB_false, bindO_ok, Bool.not_false, ifB_true, ifB_bne, if_true, ix, hcx, ci, Bool.not_true, e4, sel2_zero, letV_eq, hw1]
theorem openE_zero {ds : List Dc} {nm : B} {no : Int} {tx : B} (h : openE ds nm no tx = 0) : findN nm ds 0 = none ∧ ds.length < 32 ∧ badN no = false ∧ tx.length ≤ 65536 := by
  unfold openE at h
  split at h
  · cases h
  · rename_i hf
    split at h
    · cases h
    · split at h
      · cases h
      · split at h
        · cases h
        · rename_i h1 h2 h3
          exact ⟨hf, by omega, by simpa using h2, by omega⟩
theorem changeE_ok {ds : List Dc} {nm : B} {no : Int} {cs : List Chg} {i : Nat} {u : B} (h : changeE ds nm no cs = .ok (i, u)) : findN nm ds 0 = some i ∧ badN no = false ∧ ∃ d v, ds[i]? = some d ∧ d.vs.getLast? = some v ∧ v.1 < no := by
  unfold changeE at h
  split at h
  · cases h
  · rename_i i' hf
    split at h
    · cases h
    · rename_i hb
      split at h
      · cases h
      · rename_i v hv
        split at h
        · cases h
        · rename_i hno
          split at h
          · cases h
          · cases h
            obtain ⟨d, hd, hv⟩ := Option.bind_eq_some_iff.1 hv
            exact ⟨hf, by simpa using hb, d, v, hd, hv, by omega⟩
theorem nm_map (ds : List Dc) : ds.map nmV = (ds.map Dc.nm).map AV.str := by rw [List.map_map]; rfl
theorem Goes.inl {σ β : Type} {F : σ → Option (Sum σ β)} {s : σ} {Q : β → Prop} (h : Goes (F s) fun r => ∃ s', r = .inl s' ∧ Goes (loopO F s') Q) : Goes (loopO F s) Q := by
  obtain ⟨r, e, s', rfl, g⟩ := h
  exact Goes.step (loopO_inl e) g
theorem stays_L5 {x0 : AV} {es : List AV} {ss : List Stp} (hx0 : IsSl 5 x0 es) (hss : StpsV ss es) (hsm : ∀ s ∈ ss, s.text.length ≤ 3000 ∧ s.name.length ≤ 3000 ∧ s.cs.length < 3000 ∧ ∀ c ∈ s.cs, c.text.length < 3000) (hlen : ss.length ≤ 60) (sp : Nat) :
    ∀ (m : List Stp) (i : Nat) (st : St) (ow : Nat) (ds : List Dc), ss.drop i = m → Sto st sp ow ds → DsOk ds → Goes (loopO (g4_L5 x0 (.mp sp 0)) ([.bool false, .int .i64 (i : Int)], st)) (fun r => r.1 = 0 ∧ r.2.1 = [.bool false])
  | [], i, st, ow, ds, hd, h, hds => by
    have := List.drop_eq_nil_iff.1 hd
    have hle := stps_len hss
    have q : ¬ (i : Int) < (es.length : Int) := by omega
    refine ⟨(0, [.bool false], st), loopO_inr ?_, rfl, rfl⟩
    simp only [g4_L5, unc_cons, asI_int, asB_bool, un0_nil, hx0.len, ifB_decide, if_neg q]
  | s :: m, i, st, ow, ds, hd, h, hds => by
    obtain ⟨hg, hdr, hlt⟩ := drop_cons hd
    have hle := stps_len hss
    have q : (i : Int) < (es.length : Int) := by omega
    obtain ⟨e0, he, v, hv, rfl⟩ := stps_at hss hg
    obtain ⟨hs1, hs2, hs3, hs4⟩ := hsm s (List.mem_of_getElem? hg)
    have iz : ∀ {β : Type} (st : St) (K : AV → List Nat → Option β), idxA 5 x0 (i : Int) st K = K (.ip [.int .u8 s.kind, .str s.name, .int .i64 s.no, .str s.text, v]) [] := fun st K => hx0.idx he st K
    have hlds := hds.len
    have hw1 : IntKind.wrap .i64 ((i : Int) + 1) = ((i + 1 : Nat) : Int) := wrapA1 (by omega)
    obtain ⟨v27, s1, on, w1, cn⟩ := call_names h (by omega)
    have h1 := h.keeps w1.keeps
    obtain ⟨v116, v118, W1, W2, s2, e2, k2, o1, o2, r1, r2⟩ := stays_L2 hds on h1 false ds 0 [] [] [] .nils .nils s1 rfl (way_nils s1) (way_nils s1) (Own.nils h1.ro _ _) (Own.nils h1.ro _ _) (rows_nil _) (rows_nil _) (by simp; omega)
    have e2 : loopO (g4_L2 (.mp sp 0) v27) ([.bool false, .nils, .nils, .int .i64 0], s1) = _ := e2
    rw [List.nil_append] at r1 r2
    have h2 := h1.keeps k2
    refine Goes.inl ?_
    simp only [g4_L5, unc_cons, asI_int, asB_bool, un0_nil, hx0.len, ifB_decide, if_pos q, cn, e2, bindO_ok, sel2_zero, iz, fldA_ip, List.drop_zero, loadS_ip, tl1]
    refine Goes.bind (R := fun a => ∃ (e : Nat) (ds' : List Dc) (ow' : Nat) (s3 : St), a = ([.int .i64 (e : Int)], s3) ∧ Does ds s e ds' ∧ Sto s3 sp ow' ds') ?_ ?_
    · by_cases hk0 : s.kind = 0
      · obtain ⟨s3, e3, f3, g3⟩ := openS_ok h2 hlds s.name s.no s.text (by omega)
        have c3 := fun {β : Type} (K : Kv β) => call_openS e3 K
        simp only [ifB_beq, if_pos hk0, drop1, drop3, drop2, tl1, asS_str, asI_int, c3]
        refine Goes.some ?_
        by_cases hz : openE ds s.name s.no s.text = 0
        · obtain ⟨t, ow', wt, tt, hs', _⟩ := g3 hz
          obtain ⟨a1, a2, a3, a4⟩ := openE_zero hz
          refine ⟨0, _, ow', s3, by rw [hz], .opened t wt (by rw [← size_text, tt]; exact a4) a1 a2 a3, hs'⟩
        · exact ⟨_, ds, ow, s3, rfl, .no _ hz, h2.keeps (f3 hz)⟩
      · by_cases hk1 : s.kind = 1
        · obtain ⟨y, hy, cg⟩ := call_given hv (by omega)
          have hch := changeS_ok h2 hds.ok (by omega) s.name s.no hy (fun c hc => by have := hs4 c hc; omega) (by omega)
          cases hce : changeE ds s.name s.no s.cs with
          | error e =>
            rw [hce] at hch
            obtain ⟨hne, s3, e3, k3⟩ := hch
            have c3 := fun {β : Type} (K : Kv β) => call_changeS e3 K
            simp only [ifB_beq, if_neg hk0, if_pos hk1, drop1, drop2, drop4, tl1, asS_str, asI_int, cg, apart_kept, Bool.and_self, chk_true, c3, bindO_ok, unc_cons, un0_nil]
            exact Goes.some ⟨e, ds, ow, s3, rfl, .no _ hne, h2.keeps k3⟩
          | ok iu =>
            obtain ⟨i', u⟩ := iu
            rw [hce] at hch
            obtain ⟨t, d, s3, hd', hnm, wt, st3, tt, e3, hs3', k3⟩ := hch
            have c3 := fun {β : Type} (K : Kv β) => call_changeS e3 K
            obtain ⟨a1, a2, d2, v2, a3, a4, a5⟩ := changeE_ok hce
            rw [hd'] at a3; cases a3
            simp only [ifB_beq, if_neg hk0, if_pos hk1, drop1, drop2, drop4, tl1, asS_str, asI_int, cg, apart_kept, Bool.and_self, chk_true, c3, bindO_ok, unc_cons, un0_nil]
            exact Goes.some ⟨0, _, ow, s3, rfl, .changed i' d v2 t hk1 wt st3 a1 hd' a4 a5 a2, hs3'⟩
        · by_cases hk2 : s.kind = 2
          · have hcl := close_ok h2 (by omega) s.name
            cases hf : findN s.name ds 0 with
            | none =>
              rw [hf] at hcl
              obtain ⟨s3, k3, c3⟩ := hcl
              simp only [ifB_beq, if_neg hk0, if_neg hk1, if_pos hk2, drop1, tl1, asS_str, asI_int, c3, bindO_ok, unc_cons, un0_nil]
              exact Goes.some ⟨5, ds, ow, s3, rfl, .no _ (by decide), h2.keeps k3⟩
            | some j =>
              rw [hf] at hcl
              obtain ⟨s3, ow', h3, k3, _, c3⟩ := hcl
              simp only [ifB_beq, if_neg hk0, if_neg hk1, if_pos hk2, drop1, tl1, asS_str, asI_int, c3, bindO_ok, unc_cons, un0_nil]
              exact Goes.some ⟨0, _, ow', s3, rfl, .closed j hk2 hf, h3⟩
          · simp only [ifB_beq, if_neg hk0, if_neg hk1, if_neg hk2, bindO_ok, unc_cons, asI_int, un0_nil]
            exact Goes.some ⟨5, ds, ow, s2, rfl, .no _ (by decide), h2⟩
    · rintro a ⟨e, ds', ow', s3, rfl, hdo, h3⟩
      have hds' := does_ok hds hdo
      have hlds' := hds'.len
      obtain ⟨v194, s4, on', w4, cn'⟩ := call_names h3 (by omega)
      obtain ⟨s5, e5, k5⟩ := stays_L4 hds hds' hdo on o1 o2 r1 r2 hx0 he false (h3.keeps w4.keeps) ds 0 s4 rfl (Keeps.refl _ _)
      have e5 : loopO (g4_L4 x0 (.mp sp 0) (i : Int) v27 v116 v118 (e : Int)) ([.bool false, .int .i64 0], s4) = _ := e5
      have h5 := (h3.keeps w4.keeps).keeps k5
      have ih := stays_L5 hx0 hss hsm hlen sp m (i + 1) s5 ow' ds' hdr h5 hds'
      have ln : ∀ {β : Type} (K : Nat → Option β), lenS v194 K = K (ds'.map nmV).length := fun K => own_len on' K
      have q32 : decide (((ds'.map nmV).length : Int) > 32) = false := decide_eq_false (by rw [List.length_map]; omega)
      by_cases hz : e = 0
      · have he0 : (e : Int) = 0 := by omega
        simp only [unc_cons, asI_int, un0_nil, cn', ifB_bne, if_pos he0, ln, q32, bindO_ok, asB_bool, ifB_false, e5, sel2_zero, letV_eq, hw1]
        exact Goes.some ⟨_, rfl, ih⟩
      · have he0 : ¬ (e : Int) = 0 := by omega
        have hsame := does_names hdo hz
        have ct := fun {β : Type} (st : St) (K : Kv β) => call_texts (x := v27) (y := v194) (a := ds.map Dc.nm) (b := ds'.map Dc.nm) (by rw [← nm_map]; exact on) (by rw [← nm_map]; exact on') st K
        rw [decide_eq_true (show ds.map Dc.nm = ds'.map Dc.nm by rw [hsame])] at ct
        simp only [unc_cons, asI_int, un0_nil, cn', ifB_bne, if_neg he0, ct, asB_bool, Bool.not_true, ifB_false, ln, q32, bindO_ok, e5, sel2_zero, letV_eq, hw1]
        exact Goes.some ⟨_, rfl, ih⟩
theorem law_stays {x : AV} {es : List AV} {ss : List Stp} (hx : IsSl 5 x es) (hs : StpsV ss es) (_ : ∀ s ∈ ss, 0 ≤ s.kind ∧ s.kind ≤ 255) : (orc vE).bare 4 [x] = some (.bool true) := by
  refine bare_of rfl ((g4_eq _).trans ?_)
  generalize hs0 : (St.mk 0 0 Tr.leaf) = s0
  have hr0 : s0.ro = 0 := by rw [← hs0]
  have hlg : ∀ {β : Type} (st : St) (K : Kv β), callS (orc vE) 8 [x] st K = K (.bool (largeS ss)) st q0 := fun st K => callS_bare st K rfl (by simp only [List.map_cons, List.map_nil, hx.strip]) (by simp only [bares_cons, hx.bare]; rfl) (large_ok hx hs)
  cases hlS : largeS ss with
  | true => simp only [g4, hs0, call_works, asB_bool, Bool.not_true, ifB_false, hlg, hlS, bindO_ok, unc_cons, un0_nil, ifB_true]
  | false =>
    obtain ⟨hlen, hall⟩ := largeS_small hlS
    obtain ⟨s1, a1, k1, n1, c1⟩ := call_new s0 hr0
    obtain ⟨r, e, hr1, hr2⟩ := stays_L5 hx hs hall hlen s0.h ss 0 s1 s0.h [] rfl a1 ⟨(fun _ h => by cases h), by simp, List.Pairwise.nil⟩
    have e : loopO (g4_L5 x (.mp s0.h 0)) ([.bool false, .int .i64 0], s1) = _ := e
    obtain ⟨r1, r2, r3⟩ := r
    simp only at hr1 hr2
    subst hr1; subst hr2
    simp only [g4, hs0, call_works, asB_bool, Bool.not_true, ifB_false, hlg, hlS, bindO_ok, unc_cons, un0_nil, c1, e, sel2_zero]
end
end Go.Proofs.YticccmpaekphgaaDoor.Vm
/- The store's laws: arguments. -/
set_option maxRecDepth 100000
namespace Go.Proofs.YticccmpaekphgaaDoor.Vm
open Go Go.VM Go.Proofs Go.Store

def lawS : List TypeId := [9, 3, 4, 5, 53, 55, 66, 22, 26, 27]
theorem lawS_ok : ∀ t, inS lawS t = true → okTy Tryd.prog lawS t = true := by
  intro t ht
  have : t ∈ lawS := by
    obtain ⟨u, hu, e⟩ := List.any_eq_true.1 ht
    rw [← Nat.eq_of_beq_eq_true e]; exact hu
  exact List.all_eq_true.1 (show (lawS.all fun t => okTy Tryd.prog lawS t) = true by kernel_rfl) t this
theorem av_str {n t : Nat} {cs : List AV} (hu : Tryd.prog.underlying t = some .string) (h : AvOf Tryd.prog n t cs) : ∃ s, cs = [.str s] ∧ s.length ≤ maxLen := by
  cases n with
  | zero => cases h
  | succ n => simp only [AvOf, hu] at h; exact h
theorem av_bool {n t : Nat} {cs : List AV} (hu : Tryd.prog.underlying t = some .bool) (h : AvOf Tryd.prog n t cs) : ∃ b, cs = [.bool b] := by
  cases n with
  | zero => cases h
  | succ n => simp only [AvOf, hu] at h; exact h
theorem av_int {n t : Nat} {k : IntKind} {cs : List AV} (hu : Tryd.prog.underlying t = some (.int k)) (h : AvOf Tryd.prog n t cs) : ∃ m, cs = [.int k m] ∧ k.min ≤ m ∧ m ≤ k.max := by
  cases n with
  | zero => cases h
  | succ n => simp only [AvOf, hu] at h; exact h
theorem sl_of {n t e : Nat} {cs : List AV} {Q : AV → Prop} (hu : Tryd.prog.underlying t = some (.slice e)) (h : AvOf Tryd.prog n t cs) (hQ : ∀ a, AvOf Tryd.prog (n - 1) e a → Q (mkV (isSt Tryd.prog e) a)) :
    ∃ x es, cs = [x] ∧ IsSl (Tryd.prog.cellsOf e) x es ∧ ∀ v ∈ es, Q v := by
  cases n with
  | zero => cases h
  | succ n =>
    simp only [AvOf, hu] at h
    rcases h with rfl | rfl | ⟨L, rfl, hl, hL⟩
    · exact ⟨_, [], rfl, IsSl.nils, by simp⟩
    · exact ⟨_, [], rfl, IsSl.emp, by simp⟩
    · refine ⟨_, _, rfl, IsSl.wide (by rw [List.length_map]; simpa [maxLen] using hl), fun v hv => ?_⟩
      obtain ⟨a, ha, rfl⟩ := List.mem_map.1 hv
      exact hQ a (hL a ha)
theorem pos_of {n : Nat} {cs : List AV} (h : AvOf Tryd.prog n 53 cs) : ∃ x y, cs = [.int .i64 x, .int .i64 y] := by
  cases n with
  | zero => cases h
  | succ n =>
    simp only [AvOf, Tryd.underlying53] at h
    obtain ⟨a0, b0, rfl, h0, a1, b1, rfl, h1, rfl⟩ := h
    obtain ⟨x, rfl, _⟩ := av_int Tryd.underlying3 h0
    obtain ⟨y, rfl, _⟩ := av_int Tryd.underlying3 h1
    exact ⟨x, y, rfl⟩
theorem range_of {n : Nat} {cs : List AV} (h : AvOf Tryd.prog n 55 cs) : ∃ a b c d, cs = [.int .i64 a, .int .i64 b, .int .i64 c, .int .i64 d] := by
  cases n with
  | zero => cases h
  | succ n =>
    simp only [AvOf, Tryd.underlying55] at h
    obtain ⟨a0, b0, rfl, h0, a1, b1, rfl, h1, rfl⟩ := h
    obtain ⟨x, y, rfl⟩ := pos_of h0
    obtain ⟨z, w, rfl⟩ := pos_of h1
    exact ⟨x, y, z, w, rfl⟩
theorem change_of {n : Nat} {cs : List AV} (h : AvOf Tryd.prog n 66 cs) : ∃ c : Chg, AV.agg cs = chgV c := by
  cases n with
  | zero => cases h
  | succ n =>
    simp only [AvOf, Tryd.underlying66] at h
    obtain ⟨a0, b0, rfl, h0, a1, b1, rfl, h1, a2, b2, rfl, h2, rfl⟩ := h
    obtain ⟨b, rfl⟩ := av_bool Tryd.underlying4 h0
    obtain ⟨x, y, z, w, rfl⟩ := range_of h1
    obtain ⟨s, rfl, _⟩ := av_str Tryd.underlying9 h2
    exact ⟨⟨b, x, y, z, w, s⟩, rfl⟩
theorem chgs_of : ∀ {es : List AV}, (∀ v ∈ es, ∃ c : Chg, v = chgV c) → ∃ l : List Chg, es = l.map chgV
  | [], _ => ⟨[], rfl⟩
  | v :: vs, h => by
    obtain ⟨d, rfl⟩ := h v (by simp)
    obtain ⟨ds, rfl⟩ := chgs_of (es := vs) fun u hu => h u (List.mem_cons_of_mem _ hu)
    exact ⟨d :: ds, rfl⟩
theorem chgsl_of {n : Nat} {cs : List AV} (h : AvOf Tryd.prog n 22 cs) : ∃ (x : AV) (l : List Chg), cs = [x] ∧ IsSl 6 x (l.map chgV) := by
  have hz : Tryd.prog.cellsOf 66 = 6 := by kernel_rfl
  have hst : isSt Tryd.prog 66 = true := by kernel_rfl
  obtain ⟨x, es, rfl, hx, hes⟩ := sl_of (Q := fun v => ∃ c : Chg, v = chgV c) Tryd.underlying22 h fun a ha => by
    rw [hst]
    exact change_of ha
  rw [hz] at hx
  obtain ⟨l, rfl⟩ := chgs_of hes
  exact ⟨x, l, rfl, hx⟩
theorem step_of {n : Nat} {cs : List AV} (h : AvOf Tryd.prog n 26 cs) : ∃ s : Stp, StpV s (.agg cs) ∧ 0 ≤ s.kind ∧ s.kind ≤ 255 := by
  cases n with
  | zero => cases h
  | succ n =>
    simp only [AvOf, Tryd.underlying26] at h
    obtain ⟨a0, b0, rfl, h0, a1, b1, rfl, h1, a2, b2, rfl, h2, a3, b3, rfl, h3, a4, b4, rfl, h4, rfl⟩ := h
    obtain ⟨k, rfl, hk1, hk2⟩ := av_int Tryd.underlying5 h0
    obtain ⟨nm, rfl, _⟩ := av_str Tryd.underlying9 h1
    obtain ⟨no, rfl, _⟩ := av_int Tryd.underlying3 h2
    obtain ⟨tx, rfl, _⟩ := av_str Tryd.underlying9 h3
    obtain ⟨x, l, rfl, hx⟩ := chgsl_of h4
    exact ⟨⟨k, nm, no, tx, l⟩, ⟨x, hx, rfl⟩, hk1, hk2⟩
theorem steps_of : ∀ {es : List AV}, (∀ v ∈ es, ∃ s : Stp, StpV s v ∧ 0 ≤ s.kind ∧ s.kind ≤ 255) → ∃ l, StpsV l es ∧ ∀ s ∈ l, 0 ≤ s.kind ∧ s.kind ≤ 255
  | [], _ => ⟨[], trivial, fun _ h => by cases h⟩
  | v :: vs, h => by
    obtain ⟨d, hd, hk⟩ := h v (by simp)
    obtain ⟨ds, h1, h2⟩ := steps_of (es := vs) fun u hu => h u (List.mem_cons_of_mem _ hu)
    refine ⟨d :: ds, ⟨hd, h1⟩, fun s hs => ?_⟩
    rcases List.mem_cons.1 hs with rfl | hs
    · exact hk
    · exact h2 s hs
theorem stepsl_of {n : Nat} {cs : List AV} (h : AvOf Tryd.prog n 27 cs) : ∃ (x : AV) (es : List AV) (l : List Stp), cs = [x] ∧ IsSl 5 x es ∧ StpsV l es ∧ ∀ s ∈ l, 0 ≤ s.kind ∧ s.kind ≤ 255 := by
  have hz : Tryd.prog.cellsOf 26 = 5 := by kernel_rfl
  have hst : isSt Tryd.prog 26 = true := by kernel_rfl
  obtain ⟨x, es, rfl, hx, hes⟩ := sl_of (Q := fun v => ∃ s : Stp, StpV s v ∧ 0 ≤ s.kind ∧ s.kind ≤ 255) Tryd.underlying27 h fun a ha => by
    rw [hst]
    exact step_of ha
  rw [hz] at hx
  obtain ⟨l, h1, h2⟩ := steps_of hes
  exact ⟨x, es, l, rfl, hx, h1, h2⟩
end Go.Proofs.YticccmpaekphgaaDoor.Vm
