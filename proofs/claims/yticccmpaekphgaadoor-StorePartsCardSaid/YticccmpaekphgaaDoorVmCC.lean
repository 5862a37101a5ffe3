/-
  (A part of the proof: StoreG, StoreWk, FL3, StoreParts, StoreArg.)
-/
import Derived.Test.YticccmpaekphgaaDoorVmCB
import Derived.Test.YticccmpaekphgaaDoorVmAJ
import Derived.Test.YticccmpaekphgaaDoorVmAI
import Derived.Test.YticccmpaekphgaaDoorVmBI
/- The laws' own functions: large, given, last. -/
set_option maxRecDepth 100000
set_option linter.unusedSimpArgs false
namespace Go.Proofs.YticccmpaekphgaaDoor.Vm
open Go Go.VM Go.Proofs Go.Store Go.Lib T

structure Stp where
  kind : Int
  name : B
  no : Int
  text : B
  cs : List Chg
def StpV (s : Stp) (e : AV) : Prop := ∃ v, IsSl 6 v (s.cs.map chgV) ∧ e = .agg [.int .u8 s.kind, .str s.name, .int .i64 s.no, .str s.text, v]
def StpsV : List Stp → List AV → Prop
  | [], [] => True
  | s :: l, e :: es => StpV s e ∧ StpsV l es
  | _, _ => False
theorem stps_at : ∀ {l : List Stp} {es : List AV}, StpsV l es → ∀ {i : Nat} {s : Stp}, l[i]? = some s → ∃ e, es[i]? = some e ∧ StpV s e
  | s :: l, e :: es, h, 0, s', hs => by
    simp only [List.getElem?_cons_zero, Option.some.injEq] at hs
    subst hs
    exact ⟨e, rfl, h.1⟩
  | s :: l, e :: es, h, i + 1, s', hs => by
    obtain ⟨e', h1, h2⟩ := stps_at h.2 (show l[i]? = some s' by simpa using hs)
    exact ⟨e', by simpa using h1, h2⟩
  | [], _, _, i, _, hs => by simp at hs
  | _ :: _, [], h, _, _, _ => by cases h
theorem stps_len : ∀ {l : List Stp} {es : List AV}, StpsV l es → es.length = l.length
  | [], [], _ => rfl
  | _ :: l, _ :: es, h => by rw [List.length_cons, List.length_cons, stps_len h.2]
  | [], _ :: _, h => by cases h
  | _ :: _, [], h => by cases h
def inN : Nat → List Chg → Nat
  | n, [] => n
  | n, c :: l => if n < 3000 then inN (n + 1 + min c.text.length 3000) l else n
def outN : Nat → List Stp → Option Nat
  | n, [] => some n
  | n, s :: l => if n < 3000 then (if 3000 < s.text.length ∨ 3000 < s.name.length then none else outN (inN (n + 1 + s.text.length + s.name.length) s.cs) l) else some n
def largeS (ss : List Stp) : Bool := match outN 0 ss with
  | none => true
  | some n => decide (3000 ≤ n) || decide (60 < ss.length)
theorem inN_le : ∀ (l : List Chg) (n : Nat), n ≤ 10000 → inN n l ≤ 10000
  | [], n, h => h
  | c :: l, n, h => by
    unfold inN
    split
    · exact inN_le l _ (by omega)
    · exact h
theorem inN_ge : ∀ (l : List Chg) (n : Nat), n ≤ inN n l
  | [], n => Nat.le_refl _
  | c :: l, n => by
    unfold inN
    split
    · have := inN_ge l (n + 1 + min c.text.length 3000); omega
    · exact Nat.le_refl _
theorem inN_small : ∀ {l : List Chg} {n : Nat}, inN n l < 3000 → (∀ c ∈ l, c.text.length < 3000) ∧ n + l.length ≤ inN n l
  | [], n, h => ⟨fun _ hc => (by cases hc), Nat.le_refl _⟩
  | c :: l, n, h => by
    unfold inN at h ⊢
    by_cases hn : n < 3000
    · rw [if_pos hn] at h ⊢
      obtain ⟨h1, h2⟩ := inN_small h
      have := inN_ge l (n + 1 + min c.text.length 3000)
      refine ⟨fun d hd => ?_, by rw [List.length_cons]; omega⟩
      rcases List.mem_cons.1 hd with rfl | hd
      · omega
      · exact h1 d hd
    · rw [if_neg hn] at h; omega
theorem outN_small : ∀ {l : List Stp} {n k : Nat}, outN n l = some k → k < 3000 → ∀ s ∈ l, s.text.length ≤ 3000 ∧ s.name.length ≤ 3000 ∧ s.cs.length < 3000 ∧ ∀ c ∈ s.cs, c.text.length < 3000
  | [], _, _, _, _, _, hs => by cases hs
  | s :: l, n, k, h, hk, u, hu => by
    have big : ∀ {l : List Stp} {n k : Nat}, outN n l = some k → n ≤ k := by
      intro l
      induction l with
      | nil => intro n k h; unfold outN at h; cases h; exact Nat.le_refl _
      | cons s l ih =>
        intro n k h
        unfold outN at h
        split at h
        · split at h
          · cases h
          · have h1 := ih h
            have h2 := inN_ge s.cs (n + 1 + s.text.length + s.name.length)
            omega
        · cases h; exact Nat.le_refl _
    unfold outN at h
    split at h
    · split at h
      · cases h
      · rename_i hg
        rw [not_or] at hg
        have hb := big h
        obtain ⟨h1, h2⟩ := inN_small (show inN (n + 1 + s.text.length + s.name.length) s.cs < 3000 by omega)
        rcases List.mem_cons.1 hu with rfl | hu
        · exact ⟨by omega, by omega, by omega, h1⟩
        · exact outN_small h hk u hu
    · cases h; omega
theorem largeS_small {ss : List Stp} (h : largeS ss = false) : ss.length ≤ 60 ∧ ∀ s ∈ ss, s.text.length ≤ 3000 ∧ s.name.length ≤ 3000 ∧ s.cs.length < 3000 ∧ ∀ c ∈ s.cs, c.text.length < 3000 := by
  unfold largeS at h
  cases ho : outN 0 ss with
  | none => rw [ho] at h; cases h
  | some k =>
    rw [ho] at h
    simp only [Bool.or_eq_false_iff, decide_eq_false_iff_not] at h
    exact ⟨by omega, outN_small ho (by omega)⟩
section
variable {x : AV} {es : List AV} {ss : List Stp}
theorem tk1 {β : Type} (v : AV) (l : List AV) (K : AV → Option β) : bindO (takeO 1 false (v :: l)) K = K v := rfl
theorem in_loop (hx : IsSl 5 x es) {i : Nat} {s : Stp} {v : AV} (hg : es[i]? = some (.agg [.int .u8 s.kind, .str s.name, .int .i64 s.no, .str s.text, v])) (hv : IsSl 6 v (s.cs.map chgV)) (st : St) : ∀ (m : List Chg) (k n : Nat), s.cs.drop k = m → n ≤ 10000 →
    ∃ k', loopO (g8_L1 x (i : Int)) ([.int .i64 (n : Int), .int .i64 (k : Int)], st) = some (k', [.int .i64 (inN n m : Int)], st)
  | [], k, n, hd, hn => by
    have := List.drop_eq_nil_iff.1 hd
    have q : ¬ (k : Int) < (s.cs.length : Int) := by omega
    have ix : ∀ {β : Type} (K : AV → List Nat → Option β), idxA 5 x (i : Int) st K = K (.ip [.int .u8 s.kind, .str s.name, .int .i64 s.no, .str s.text, v]) [] := fun K => hx.idx hg st K
    have hl : ∀ {β : Type} (K : Nat → Option β), lenS v K = K s.cs.length := fun K => by rw [hv.len, List.length_map]
    refine ⟨0, loopO_inr ?_⟩
    simp only [g8_L1, unc_cons, asI_int, un0_nil, ix, fldA_ip, drop4, loadS_ip, tk1, hl, ifB_decide, if_neg q, bindO_ok, asB_bool, ifB_false, inN]
  | c :: m, k, n, hd, hn => by
    obtain ⟨hgt, hdr, hlt⟩ := drop_cons hd
    have q : (k : Int) < (s.cs.length : Int) := by omega
    have ix : ∀ {β : Type} (K : AV → List Nat → Option β), idxA 5 x (i : Int) st K = K (.ip [.int .u8 s.kind, .str s.name, .int .i64 s.no, .str s.text, v]) [] := fun K => hx.idx hg st K
    have hl : ∀ {β : Type} (K : Nat → Option β), lenS v K = K s.cs.length := fun K => by rw [hv.len, List.length_map]
    have hg2 : (s.cs.map chgV)[k]? = some (chgV c) := by rw [List.getElem?_map, hgt]; rfl
    have ix2 : ∀ {β : Type} (K : AV → List Nat → Option β), idxA 6 v (k : Int) st K = K (.ip [.bool c.whole, .int .i64 c.l1, .int .i64 c.c1, .int .i64 c.l2, .int .i64 c.c2, .str c.text]) [] := fun K => hv.idx hg2 st K
    unfold inN
    by_cases hlt3 : n < 3000
    · rw [if_pos hlt3]
      have q2 : (n : Int) < 3000 := by omega
      have hm : (if (3000 : Int) < (c.text.length : Int) then (3000 : Int) else (c.text.length : Int)) = ((min c.text.length 3000 : Nat) : Int) := by split <;> omega
      have w1 : IntKind.wrap .i64 ((n : Int) + 1) = ((n + 1 : Nat) : Int) := wrapA1 (by omega)
      have w2 : IntKind.wrap .i64 (((n + 1 : Nat) : Int) + ((min c.text.length 3000 : Nat) : Int)) = ((n + 1 + min c.text.length 3000 : Nat) : Int) := wrapA (by omega)
      have w3 : IntKind.wrap .i64 ((k : Int) + 1) = ((k + 1 : Nat) : Int) := wrapA1 (by
        have := hv.1; rw [List.length_map] at this; omega)
      obtain ⟨k', e⟩ := in_loop hx hg hv st m (k + 1) (n + 1 + min c.text.length 3000) hdr (by omega)
      refine ⟨k', (loopO_inl ?_).trans e⟩
      simp only [g8_L1, unc_cons, asI_int, un0_nil, ix, ix2, fldA_ip, drop4, drop5, loadS_ip, tk1, hl, ifB_decide, if_pos q, bindO_ok, asB_bool, if_pos q2, ifB_true, letV_eq, w1, asS_str, hm, w2, w3]
    · rw [if_neg hlt3]
      have q2 : ¬ (n : Int) < 3000 := by omega
      refine ⟨0, loopO_inr ?_⟩
      simp only [g8_L1, unc_cons, asI_int, un0_nil, ix, fldA_ip, drop4, loadS_ip, tk1, hl, ifB_decide, if_pos q, bindO_ok, asB_bool, if_neg q2, ifB_false]
theorem out_loop (hx : IsSl 5 x es) (hs : StpsV ss es) (st : St) : ∀ (m : List Stp) (i n : Nat), ss.drop i = m → n ≤ 10000 →
    ∃ r b k, loopO (g8_L2 x) ([.bool false, .int .i64 (n : Int), .int .i64 (i : Int)], st) = some (r, [.bool b, .int .i64 (k : Int)], st) ∧ match outN n m with | none => r = 1 ∧ b = true | some j => r = 0 ∧ k = (j : Int)
  | [], i, n, hd, hn => by
    have := List.drop_eq_nil_iff.1 hd
    have hln := stps_len hs
    have q : ¬ (i : Int) < (es.length : Int) := by omega
    refine ⟨0, false, (n : Int), loopO_inr ?_, rfl, rfl⟩
    simp only [g8_L2, unc_cons, asI_int, asB_bool, un0_nil, hx.len, ifB_decide, if_neg q, bindO_ok, ifB_false]
  | s :: m, i, n, hd, hn => by
    obtain ⟨hgt, hdr, hlt⟩ := drop_cons hd
    have hln := stps_len hs
    have q : (i : Int) < (es.length : Int) := by omega
    obtain ⟨e, he, v, hv, rfl⟩ := stps_at hs hgt
    have ix : ∀ {β : Type} (K : AV → List Nat → Option β), idxA 5 x (i : Int) st K = K (.ip [.int .u8 s.kind, .str s.name, .int .i64 s.no, .str s.text, v]) [] := fun K => hx.idx he st K
    unfold outN
    by_cases hlt3 : n < 3000
    · rw [if_pos hlt3]
      have q2 : (n : Int) < 3000 := by omega
      by_cases h1 : 3000 < s.text.length
      · rw [if_pos (.inl h1)]
        have q3 : (s.text.length : Int) > 3000 := by omega
        refine ⟨1, true, (n : Int), loopO_inr ?_, rfl, rfl⟩
        simp only [g8_L2, unc_cons, asI_int, asB_bool, un0_nil, hx.len, ifB_decide, if_pos q, bindO_ok, if_pos q2, ifB_true, ix, fldA_ip, drop3, loadS_ip, tk1, asS_str, if_pos q3]
      · have q3 : ¬ (s.text.length : Int) > 3000 := by omega
        by_cases h2 : 3000 < s.name.length
        · rw [if_pos (.inr h2)]
          have q4 : (s.name.length : Int) > 3000 := by omega
          refine ⟨1, true, (n : Int), loopO_inr ?_, rfl, rfl⟩
          simp only [g8_L2, unc_cons, asI_int, asB_bool, un0_nil, hx.len, ifB_decide, if_pos q, bindO_ok, if_pos q2, ifB_true, ix, fldA_ip, drop3, drop1, loadS_ip, tk1, asS_str, if_neg q3, if_pos q4]
        · rw [if_neg (by omega)]
          have q4 : ¬ (s.name.length : Int) > 3000 := by omega
          have w1 : IntKind.wrap .i64 ((n : Int) + 1) = ((n + 1 : Nat) : Int) := wrapA1 (by omega)
          have w2 : IntKind.wrap .i64 (((n + 1 : Nat) : Int) + (s.text.length : Int)) = ((n + 1 + s.text.length : Nat) : Int) := wrapA (by omega)
          have w3 : IntKind.wrap .i64 (((n + 1 + s.text.length : Nat) : Int) + (s.name.length : Int)) = ((n + 1 + s.text.length + s.name.length : Nat) : Int) := wrapA (by omega)
          have w4 : IntKind.wrap .i64 ((i : Int) + 1) = ((i + 1 : Nat) : Int) := wrapA1 (by have := hx.1; omega)
          obtain ⟨k', e1⟩ := in_loop hx he hv st s.cs 0 (n + 1 + s.text.length + s.name.length) rfl (by omega)
          have e1 : loopO (g8_L1 x (i : Int)) ([.int .i64 ((n + 1 + s.text.length + s.name.length : Nat) : Int), .int .i64 0], st) = _ := e1
          obtain ⟨r, b, k, e2, hm⟩ := out_loop hx hs st m (i + 1) (inN (n + 1 + s.text.length + s.name.length) s.cs) hdr (inN_le _ _ (by omega))
          refine ⟨r, b, k, (loopO_inl ?_).trans e2, hm⟩
          simp only [g8_L2, unc_cons, asI_int, asB_bool, un0_nil, hx.len, ifB_decide, if_pos q, bindO_ok, if_pos q2, ifB_true, ix, fldA_ip, drop3, drop1, loadS_ip, tk1, asS_str, if_neg q3, if_neg q4, ifB_false, letV_eq, w1, w2, w3, e1, w4]
    · rw [if_neg hlt3]
      have q2 : ¬ (n : Int) < 3000 := by omega
      refine ⟨0, false, (n : Int), loopO_inr ?_, rfl, rfl⟩
      simp only [g8_L2, unc_cons, asI_int, asB_bool, un0_nil, hx.len, ifB_decide, if_pos q, bindO_ok, if_neg q2, ifB_false]
theorem large_ok (hx : IsSl 5 x es) (hs : StpsV ss es) : (orc vE).bare 8 [x] = some (.bool (largeS ss)) := by
  refine bare_of rfl ((g8_eq _).trans ?_)
  obtain ⟨r, b, k, e, hm⟩ := out_loop hx hs (St.mk 0 0 Tr.leaf) ss 0 0 rfl (by omega)
  have e : loopO (g8_L2 x) ([.bool false, .int .i64 0, .int .i64 0], St.mk 0 0 Tr.leaf) = _ := e
  have hln := stps_len hs
  unfold largeS
  cases ho : outN 0 ss with
  | none =>
    rw [ho] at hm
    obtain ⟨rfl, rfl⟩ := hm
    simp only [g8, e, bindO_ok, unc_cons, asB_bool, asI_int, un0_nil, sel2_one]
  | some j =>
    rw [ho] at hm
    obtain ⟨rfl, rfl⟩ := hm
    by_cases hj : 3000 ≤ j
    · have q : (j : Int) ≥ 3000 := by omega
      simp only [g8, e, bindO_ok, unc_cons, asB_bool, asI_int, un0_nil, sel2_zero, ifB_decide, if_pos q, decide_eq_true hj, Bool.true_or]
    · have q : ¬ (j : Int) ≥ 3000 := by omega
      have q2 : decide ((es.length : Int) > 60) = decide (60 < ss.length) := by
        rw [hln]; exact decide_eq_decide.2 (by omega)
      simp only [g8, e, bindO_ok, unc_cons, asB_bool, asI_int, un0_nil, sel2_zero, ifB_decide, if_neg q, decide_eq_false hj, Bool.false_or, hx.len, q2]
/-- given: the changes as they are handed in. -/
theorem given_loop {cs : List Chg} (hx : IsSl 6 x (cs.map chgV)) (hlen : cs.length ≤ 1000000) : ∀ (m : List Chg) (i : Nat) (out : List Chg) (v : AV) (st : St), cs.drop i = m → Own st 6 57 v (out.map chgV) → out.length + m.length ≤ 1000000 →
    ∃ v' st', loopO (g12_L1 x) ([v, .int .i64 (i : Int)], st) = some (0, [v'], st') ∧ Own st' 6 57 v' ((out ++ m).map chgV)
  | [], i, out, v, st, hd, ho, hl => by
    have := List.drop_eq_nil_iff.1 hd
    have q : ¬ (i : Int) < ((cs.map chgV).length : Int) := by rw [List.length_map]; omega
    refine ⟨v, st, loopO_inr ?_, by simpa using ho⟩
    simp only [g12_L1, unc_cons, asI_int, un0_nil, hx.len, ifB_decide, if_neg q]
  | c :: m, i, out, v, st, hd, ho, hl => by
    obtain ⟨hgt, hdr, hlt⟩ := drop_cons hd
    have q : (i : Int) < ((cs.map chgV).length : Int) := by rw [List.length_map]; omega
    have hg2 : (cs.map chgV)[i]? = some (chgV c) := by rw [List.getElem?_map, hgt]; rfl
    have ix : ∀ {β : Type} (K : AV → List Nat → Option β), idxA 6 x (i : Int) st K = K (.ip [.bool c.whole, .int .i64 c.l1, .int .i64 c.c1, .int .i64 c.l2, .int .i64 c.c2, .str c.text]) [] := fun K => hx.idx hg2 st K
    have tk4 : ∀ {β : Type} (a b c d e : AV) (K : AV → Option β), bindO (takeO 4 true [a, b, c, d, e]) K = K (.agg [a, b, c, d]) := fun _ _ _ _ _ _ => rfl
    have w1 : IntKind.wrap .i64 ((i : Int) + 1) = ((i + 1 : Nat) : Int) := wrapA1 (by omega)
    obtain ⟨v1, s1, x1, ho1, k1, j1, _, e1⟩ := own_fx (b := 56) [chgV c] ho fun _ => room_of (by
      simp only [List.length_map, List.length_cons, List.length_nil] at hl ⊢; omega) (by omega) (by omega)
    have e1 : ∀ {β : Type} (K : Kv β), appS 6 56 57 v [.agg [.bool c.whole, .int .i64 c.l1, .int .i64 c.c1, .int .i64 c.l2, .int .i64 c.c2, .str c.text]] st K = K v1 s1 x1 := fun K => e1 K
    obtain ⟨v', st', e, o2⟩ := given_loop hx hlen m (i + 1) (out ++ [c]) v1 s1 hdr (by simpa using ho1) (by simp only [List.length_append, List.length_cons, List.length_nil] at hl ⊢; omega)
    refine ⟨v', st', (loopO_inl ?_).trans e, by simpa using o2⟩
    simp only [g12_L1, unc_cons, asI_int, un0_nil, hx.len, ifB_decide, if_pos q, ix, fldA_ip, List.drop_zero, drop1, drop5, loadS_ip, tk1, tk4, asB_bool, asS_str, unA_agg, e1, letV_eq, w1]
theorem given_ok {cs : List Chg} (hx : IsSl 6 x (cs.map chgV)) (hlen : cs.length ≤ 1000000) : ∃ y, (orc vE).bare 12 [x] = some y ∧ IsSl 6 y (cs.map chgV) := by
  obtain ⟨v', st', e, ho⟩ := given_loop hx hlen cs 0 [] .nils (St.mk 0 0 Tr.leaf) rfl (Own.nils (Nat.le_refl _) _ _) (by simpa using hlen)
  have e : loopO (g12_L1 x) ([.nils, .int .i64 0], St.mk 0 0 Tr.leaf) = _ := e
  obtain ⟨y, hy, hf⟩ := frz_own (β := AV) ho
  refine ⟨y, bare_of rfl ((g12_eq _).trans ?_), hy⟩
  simp only [g12, e, bindO_ok, unc_cons, un0_nil, oneOf_one, hf]
theorem call_given {cs : List Chg} (hx : IsSl 6 x (cs.map chgV)) (hlen : cs.length ≤ 1000000) : ∃ y, IsSl 6 y (cs.map chgV) ∧ ∀ {β : Type} (st : St) (K : Kv β), callS (orc vE) 12 [x] st K = K y st q0 := by
  obtain ⟨y, e, hy⟩ := given_ok hx hlen
  exact ⟨y, hy, fun st K => callS_bare st K rfl (by simp only [List.map_cons, List.map_nil, hx.strip]) (by simp only [bares_cons, hx.bare]; rfl) e⟩
end
section
variable {st st' : St} {sp ow : Nat} {ds : List Dc}
/-- What Last tells. -/
def lastT (ds : List Dc) (nm : B) : Int × B × Int := match findN nm ds 0 with
  | none => (0, [], 5)
  | some k => match (ds[k]?).bind fun d => d.vs.getLast? with
    | none => (0, [], 5)
    | some v => (v.1, v.2.text, 0)
theorem call_lastS (h : Sto st sp ow ds) (hok : ∀ d ∈ ds, DcOk d) (hl : ds.length ≤ 1000000) (nm : B) :
    ∃ st', Keeps st st' (fun _ => False) ∧ ∀ {β : Type} (K : Kv β), callS (orc vE) 14 [.mp sp 0, .str nm] st K = K (.tup [.int .i64 (lastT ds nm).1, .str (lastT ds nm).2.1, .int .i64 (lastT ds nm).2.2]) st' ⟨[], .all st st'⟩ := by
  obtain ⟨st', e, k⟩ := lastS_ok h hok hl nm
  refine ⟨st', k, fun K => callS_wide K rfl (bares_mp _ _ _ _) (e.trans ?_)⟩
  unfold lastT
  cases hf : findN nm ds 0 with
  | none => rfl
  | some i =>
    obtain ⟨_, d, hd, _⟩ := findN_some hf
    rw [Nat.sub_zero] at hd
    obtain ⟨v, hv⟩ := last_of (hok d (List.mem_of_getElem? hd))
    simp only [hd, Option.bind_some, hv]
theorem lastL_ok (h : Sto st sp ow ds) (hok : ∀ d ∈ ds, DcOk d) (hl : ds.length ≤ 1000000) (nm : B) (no : Int) (tx : B) :
    ∃ st', Keeps st st' (fun _ => False) ∧ ∀ {β : Type} (K : Kv β), callS (orc vE) 13 [.mp sp 0, .str nm, .int .i64 no, .str tx] st K = K (.bool (decide (lastT ds nm = (no, tx, 0)))) st' ⟨[], .all st st'⟩ := by
  obtain ⟨s1, k1, cl⟩ := call_lastS h hok hl nm
  refine ⟨s1, k1, fun K => callS_wide K rfl (bares_mp _ _ _ _) (wide_of ((w13_eq _ _ _ _ _).trans ?_))⟩
  generalize lastT ds nm = q at cl ⊢
  obtain ⟨a, b, c⟩ := q
  simp only at cl
  by_cases h1 : c = 0
  · by_cases h2 : a = no
    · have hb : (b == tx) = decide ((a, b, c) = (no, tx, (0 : Int))) := by
        by_cases hbt : b = tx
        · rw [beq_iff_eq.2 hbt, hbt, h1, h2]; simp
        · rw [beq_eq_false_iff_ne.2 hbt, decide_eq_false fun h => by injection h with _ h; injection h with h _; exact hbt h]
      simp only [w13, asS_str, asI_int, cl, unT_tup, nthS_zero, nthS_one, nthS_two, ifB_beq, if_pos h1, if_pos h2, bindO_ok, unc_cons, asB_bool, un0_nil, hb]
    · have hb : false = decide ((a, b, c) = (no, tx, (0 : Int))) := (decide_eq_false fun h => by injection h with h _; exact h2 h).symm
      simp only [w13, asS_str, asI_int, cl, unT_tup, nthS_zero, nthS_one, nthS_two, ifB_beq, if_pos h1, if_neg h2, bindO_ok, unc_cons, asB_bool, un0_nil, ← hb]
  · have hb : false = decide ((a, b, c) = (no, tx, (0 : Int))) := (decide_eq_false fun h => by injection h with _ h; injection h with _ h; exact h1 h).symm
    simp only [w13, asS_str, asI_int, cl, unT_tup, nthS_zero, nthS_one, nthS_two, ifB_beq, if_neg h1, bindO_ok, unc_cons, asB_bool, un0_nil, ← hb]
end
end Go.Proofs.YticccmpaekphgaaDoor.Vm
/- works: a run. -/
set_option maxRecDepth 1000000
set_option maxHeartbeats 0
namespace Go.Proofs.YticccmpaekphgaaDoor.Vm
open Go Go.VM Go.Proofs
theorem works_run : (caller vE 3000).bare 7 [] = .ok (.bool true) := by kernel_rfl
theorem works_ok : (orc vE).bare 7 [] = some (.bool true) := orc_bare works_run
theorem call_works {β : Type} (st : St) (K : Kv β) : callS (orc vE) 7 [] st K = K (.bool true) st q0 := callS_bare st K rfl rfl rfl works_ok
end Go.Proofs.YticccmpaekphgaaDoor.Vm
set_option maxRecDepth 1000000
set_option maxHeartbeats 0
namespace Go.Proofs.YticccmpaekphgaaDoor.Vm
open Go Go.VM Go.Proofs
/-- rostrum/rostrumlaw25.StoreParts -/
noncomputable def g3_L1 (x1 : AV) (v23 : AV) : Car → Option (Car ⊕ Nat × Car) := fun c45 => unc (Prod.fst c45) fun v46 l47 => asI .i64 v46 fun n48 => unc l47 fun v49 l50 => asI .i64 v49 fun n51 => un0 l50 (bindO (lenS
 x1 fun k52 => ifB (decide (n51 < (↑k52 : Int))) (some ([AV.bool (n48 == 0)], Prod.snd c45)) (some ([AV.bool false], Prod.snd c45))) fun c53 => unc (Prod.fst c53) fun v54 l55 => asB v54 fun b56 => un0 l55 (ifB b56 (letV
 (IntKind.wrap .i64 (n51 + 1)) fun n57 => letV (IntKind.wrap .i64 (n51 + 1)) fun n58 => sliceS 6 x1 (some n51) (some n58) none fun v59 => callS (orc vE) 12 [v59] (Prod.snd c53) fun v60 st61 _x => callS (orc vE) 11 [v23,
 AV.str [100], AV.int .i64 n57, v60] st61 fun v63 st64 _x => asI .i64 v63 fun n66 => letV (IntKind.wrap .i64 (n51 + 1)) fun n67 => some (Sum.inl ([AV.int .i64 n66, AV.int .i64 n67], st64))) (some (Sum.inr (0, [AV.int
 .i64 n48], Prod.snd c53)))))
noncomputable def g3 : AV → AV → Option AV := fun x0 x1 => asS x0 fun l0 => bindO (callS (orc vE) 7 [] (St.mk 0 0 Tr.leaf) fun v1 st2 _x => asB v1 fun b4 => ifB (!b4) (some ([AV.bool true], st2)) (ifB (decide
 ((↑(List.length l0) : Int) > 3000)) (some ([AV.bool true], st2)) (asOne x1 (asOne x1 (asOne x1 (fit1 x1 fun v6 => callS (orc vE) 8 [AV.sl 5 [AV.agg [AV.int .u8 0, AV.str [], AV.int .i64 0, AV.str [], v6]] Perm.shut] st2
 fun v7 st8 _x => asB v7 fun b10 => ifB b10 (some ([AV.bool true], st8)) (lenS x1 fun k11 => some ([AV.bool (decide ((↑k11 : Int) > 40))], st8)))))))) fun c12 => unc (Prod.fst c12) fun v13 l14 => asB v13 fun b15 => un0
 l14 (ifB b15 (callS (orc vE) 7 [] (Prod.snd c12) fun v16 _x _x_1 => asB v16 fun b19 => some (AV.bool b19)) (callS (orc vE) 9 [] (Prod.snd c12) fun v20 st21 _x => callS (orc vE) 9 [] st21 fun v23 st24 _x => callS (orc
 vE) 10 [v20, AV.str [100], AV.int .i64 0, AV.str l0] st24 fun v26 st27 _x => asI .i64 v26 fun n29 => callS (orc vE) 10 [v23, AV.str [100], AV.int .i64 0, AV.str l0] st27 fun v30 st31 _x => asI .i64 v30 fun n33 => bindO
 (ifB (n29 != n33) (some ([AV.bool true], st31)) (some ([AV.bool (n29 != 0)], st31))) fun c34 => unc (Prod.fst c34) fun v35 l36 => asB v35 fun b37 => un0 l36 (ifB b37 (some (AV.bool (n29 == n33))) (callS (orc vE) 12 [x1]
 (Prod.snd c34) fun v38 st39 _x => callS (orc vE) 11 [v20, AV.str [100], AV.int .i64 1, v38] st39 fun v41 st42 _x => asI .i64 v41 fun n44 => bindO (loopO (g3_L1 x1 v23) ([AV.int .i64 0, AV.int .i64 0], st42)) fun c68 =>
 unc (Prod.fst (Prod.snd c68)) fun v69 l70 => asI .i64 v69 fun n71 => un0 l70 (ifB (n44 != n71) (some (AV.bool false)) (ifB (n44 != 0) (callS (orc vE) 13 [v20, AV.str [100], AV.int .i64 0, AV.str l0] (Prod.snd (Prod.snd
 c68)) fun v72 _x _x_1 => asB v72 fun b75 => some (AV.bool b75)) (callS (orc vE) 14 [v20, AV.str [100]] (Prod.snd (Prod.snd c68)) fun v76 st77 _x => unT v76 fun l79 => nthS l79 0 fun v80 => asI .i64 v80 fun _x => unT v76
 fun l82 => nthS l82 1 fun v83 => asS v83 fun l84 => unT v76 fun l85 => nthS l85 2 fun v86 => asI .i64 v86 fun n87 => callS (orc vE) 14 [v23, AV.str [100]] st77 fun v88 st89 _x => unT v88 fun l91 => nthS l91 0 fun v92 =>
 asI .i64 v92 fun _x => unT v88 fun l94 => nthS l94 1 fun v95 => asS v95 fun l96 => unT v88 fun l97 => nthS l97 2 fun v98 => asI .i64 v98 fun n99 => bindO (ifB (n87 == 0) (ifB (n99 == 0) (some ([AV.bool (l84 == l96)],
 st89)) (some ([AV.bool false], st89))) (some ([AV.bool false], st89))) fun c100 => unc (Prod.fst c100) fun v101 l102 => asB v101 fun b103 => un0 l102 (some (AV.bool b103)))))))))
theorem g3_eq (x0 x1 : AV) : bareS vE 3 [x0, x1] = g3 x0 x1 := by kernel_rfl
end Go.Proofs.YticccmpaekphgaaDoor.Vm
/- The law: changes in one Change, or each in its own. -/
set_option maxRecDepth 100000
set_option linter.unusedSimpArgs false
set_option maxHeartbeats 4000000
namespace Go.Proofs.YticccmpaekphgaaDoor.Vm
open Go Go.VM Go.Proofs Go.Store Go.Lib T

section
variable {st st' : St} {sp ow : Nat} {ds : List Dc}
theorem call_new (st : St) (hr : st.ro = 0) : ∃ st', Sto st' st.h st.h [] ∧ Keeps st st' (fun _ => False) ∧ st.h < st'.h ∧ ∀ {β : Type} (K : Kv β), callS (orc vE) 9 [] st K = K (.mp st.h 0) st' ⟨[], .all st st'⟩ := by
  obtain ⟨st', e, h, k, hl⟩ := new_store st hr
  exact ⟨st', h, k, hl, fun K => callS_wide K rfl rfl e⟩
theorem call_openS {s1 : St} {nm : B} {no : Int} {tx : B} {r : AV} (e : (orc vE).wide 10 [.mp sp 0, .str nm, .int .i64 no, .str tx] st = some (r, s1)) {β : Type} (K : Kv β) : callS (orc vE) 10 [.mp sp 0, .str nm, .int .i64 no, .str tx] st K = K r s1 ⟨[], .all st s1⟩ := callS_wide K rfl (bares_mp _ _ _ _) e
theorem call_changeS {s1 : St} {nm : B} {no : Int} {x r : AV} (e : (orc vE).wide 11 [.mp sp 0, .str nm, .int .i64 no, x] st = some (r, s1)) {β : Type} (K : Kv β) : callS (orc vE) 11 [.mp sp 0, .str nm, .int .i64 no, x] st K = K r s1 ⟨[], .all st s1⟩ := callS_wide K rfl (bares_mp _ _ _ _) e
theorem dc_one {nm : B} {no : Int} {t : T} (hn : badN no = false) (w : WF t) (hs : t.size ≤ 65536) : DcOk ⟨nm, [(no, t)]⟩ :=
  ⟨by simp, by simp, fun v hv => by
    rcases List.mem_singleton.1 hv with rfl
    exact badN_no hn, fun v hv => by
    rcases List.mem_singleton.1 hv with rfl
    exact ⟨w, hs⟩⟩
theorem dc_more {d : Dc} (ok : DcOk d) {v : Int × T} (hl : d.vs.getLast? = some v) {no : Int} {t : T} (hn : badN no = false) (hgt : v.1 < no) (w : WF t) (hs : t.size ≤ 65536) : DcOk ⟨d.nm, d.vs ++ [(no, t)]⟩ := by
  refine ⟨by simp, ?_, fun u hu => ?_, fun u hu => ?_⟩
  · show (d.vs ++ [(no, t)]).Pairwise _
    rw [List.pairwise_append]
    refine ⟨ok.rise, by simp, fun a ha b hb => ?_⟩
    rcases List.mem_singleton.1 hb with rfl
    obtain ⟨l, hl⟩ := List.getLast?_eq_some_iff.1 hl
    have hr := ok.rise
    rw [hl, List.pairwise_append] at hr
    rw [hl] at ha
    rcases List.mem_append.1 ha with ha | ha
    · have := hr.2.2 a ha v (by simp)
      show a.1 < no
      omega
    · rcases List.mem_singleton.1 ha with rfl; exact hgt
  · rcases List.mem_append.1 hu with hu | hu
    · exact ok.nos u hu
    · rcases List.mem_singleton.1 hu with rfl; exact badN_no hn
  · rcases List.mem_append.1 hu with hu | hu
    · exact ok.wf u hu
    · rcases List.mem_singleton.1 hu with rfl; exact ⟨w, hs⟩
end
/-- One document. -/
def one1 (vs : List (Int × T)) : List Dc := [⟨[100], vs⟩]
theorem find1 (vs : List (Int × T)) : findN [100] (one1 vs) 0 = some 0 := rfl
theorem last1 {vs : List (Int × T)} {v : Int × T} (h : vs.getLast? = some v) : lastT (one1 vs) [100] = (v.1, v.2.text, 0) := by
  unfold lastT
  rw [find1]
  simp only [one1, List.getElem?_cons_zero, Option.bind_some, h]
theorem change1 {vs : List (Int × T)} {v : Int × T} (h : vs.getLast? = some v) {no : Int} (hb : badN no = false) (hgt : v.1 < no) (cs : List Chg) : changeE (one1 vs) [100] no cs = match doneL v.2.text cs with | .error e => .error e | .ok u => .ok (0, u) := by
  unfold changeE
  rw [find1]
  simp only [one1, List.getElem?_cons_zero, Option.bind_some, h, hb, Bool.false_eq_true, if_false, if_neg (show ¬ no ≤ v.1 by omega)]
  cases doneL v.2.text cs <;> rfl
theorem badN_ok {n : Int} (h0 : 0 ≤ n) (h1 : n ≤ 2147483647) : badN n = false := by
  unfold badN
  rw [decide_eq_false (by omega), decide_eq_false (by omega)]; rfl
theorem one1_ok {vs : List (Int × T)} (h : DcOk ⟨[100], vs⟩) : ∀ d ∈ one1 vs, DcOk d := fun d hd => by
  rcases List.mem_singleton.1 hd with rfl; exact h
/-- The loop: each change in a Change of its own. -/
theorem parts_loop {x : AV} {cs : List Chg} (hx : IsSl 6 x (cs.map chgV)) (hcl : ∀ c ∈ cs, c.text.length ≤ 1000000) (hlen : cs.length ≤ 1000000) {sp ow : Nat} : ∀ (m : List Chg) (i : Nat) (st : St) (vs : List (Int × T)) (v : Int × T), cs.drop i = m → Sto st sp ow (one1 vs) → DcOk ⟨[100], vs⟩ → vs.getLast? = some v → v.1 = (i : Int) →
    ∃ r h j st', loopO (g3_L1 x (.mp sp 0)) ([.int .i64 0, .int .i64 (i : Int)], st) = some (r, [.int .i64 h], st') ∧ Keeps st st' (· = ow) ∧
      match doneL v.2.text m with
      | .error e => h = (e : Int)
      | .ok u => h = 0 ∧ ∃ vs' v', Sto st' sp ow (one1 vs') ∧ DcOk ⟨[100], vs'⟩ ∧ vs'.getLast? = some v' ∧ v'.2.text = u ∧ j = i
  | [], i, st, vs, v, hd, hs, ok, hv, hi => by
    have := List.drop_eq_nil_iff.1 hd
    have q : ¬ (i : Int) < ((cs.map chgV).length : Int) := by rw [List.length_map]; omega
    refine ⟨0, 0, i, st, loopO_inr ?_, Keeps.refl _ _, rfl, vs, v, hs, ok, hv, rfl, rfl⟩
    simp only [g3_L1, unc_cons, asI_int, un0_nil, hx.len, ifB_decide, if_neg q, bindO_ok, asB_bool, ifB_false]
  | c :: m, i, st, vs, v, hd, hs, ok, hv, hi => by
    obtain ⟨hgt, hdr, hlt⟩ := drop_cons hd
    have q : (i : Int) < ((cs.map chgV).length : Int) := by rw [List.length_map]; omega
    have w1 : IntKind.wrap .i64 ((i : Int) + 1) = ((i + 1 : Nat) : Int) := wrapA1 (by omega)
    have t0 : ((0 : Int) == 0) = true := rfl
    have hmp : (cs.map chgV).length = cs.length := List.length_map _
    obtain ⟨y1, hy1, es⟩ := hx.cut (lo := some (i : Int)) (hi := some ((i + 1 : Nat) : Int)) (l := i) (m := i + 1) (hiO_nat (by omega)) (hiO_nat (by rw [hmp]; omega))
    have hcut : (((cs.map chgV).take (i + 1)).drop i) = [c].map chgV := by
      rw [← List.map_take, ← List.map_drop]
      congr 1
      have h2 : (cs.take (i + 1)).drop i = (cs.drop i).take 1 := by rw [List.drop_take]; congr 1; omega
      rw [h2, hd]; rfl
    rw [hcut] at hy1
    obtain ⟨y2, hy2, eg⟩ := call_given hy1 (by simp)
    have hb : badN ((i + 1 : Nat) : Int) = false := badN_ok (by omega) (by omega)
    have hgtv : v.1 < ((i + 1 : Nat) : Int) := by omega
    have hch := changeS_ok hs (one1_ok ok) (by simp [one1]) [100] ((i + 1 : Nat) : Int) hy2 (fun d hd => by rcases List.mem_singleton.1 hd with rfl; exact hcl _ (List.mem_of_getElem? hgt)) (by simp)
    rw [change1 hv hb hgtv] at hch
    unfold doneL at hch ⊢
    cases hdt : doneT v.2.text c with
    | error e =>
      rw [hdt] at hch
      obtain ⟨he, s1, e1, k1⟩ := hch
      have cc := fun {β : Type} (K : Kv β) => call_changeS e1 K
      have te : ((e : Int) == 0) = false := beq_eq_false_iff_ne.2 (by omega)
      refine ⟨0, (e : Int), i, s1, (loopO_inl ?_).trans (loopO_inr (s := ([.int .i64 (e : Int), .int .i64 ((i + 1 : Nat) : Int)], s1)) ?_), k1.weak fun _ f => f.elim, rfl⟩
      · simp only [g3_L1, unc_cons, asI_int, un0_nil, hx.len, ifB_decide, if_pos q, bindO_ok, asB_bool, t0, ifB_true, letV_eq, w1, es, eg, cc]
      · by_cases q2 : ((i + 1 : Nat) : Int) < ((cs.map chgV).length : Int)
        · simp only [g3_L1, unc_cons, asI_int, un0_nil, hx.len, ifB_decide, if_pos q2, bindO_ok, asB_bool, te, ifB_false]
        · simp only [g3_L1, unc_cons, asI_int, un0_nil, hx.len, ifB_decide, if_neg q2, bindO_ok, asB_bool, ifB_false]
    | ok u =>
      rw [hdt] at hch
      obtain ⟨t, d, s1, hd0, _, wt, st1, tt, e1, h1, k1⟩ := hch
      have hdd : d = ⟨[100], vs⟩ := by
        have : (one1 vs)[0]? = some ⟨[100], vs⟩ := rfl
        rw [hd0] at this
        injection this
      subst hdd
      have h1 : Sto s1 sp ow (one1 (vs ++ [(((i + 1 : Nat) : Int), t)])) := h1
      have ok1 := dc_more ok hv hb hgtv wt st1
      obtain ⟨r, h, j, st', e, k, hm⟩ := parts_loop hx hcl hlen m (i + 1) s1 (vs ++ [(((i + 1 : Nat) : Int), t)]) (((i + 1 : Nat) : Int), t) hdr h1 ok1 (by simp) rfl
      rw [tt] at hm
      have cc := fun {β : Type} (K : Kv β) => call_changeS e1 K
      refine ⟨r, h, i, st', (loopO_inl ?_).trans e, k1.trans k, ?_⟩
      · simp only [g3_L1, unc_cons, asI_int, un0_nil, hx.len, ifB_decide, if_pos q, bindO_ok, asB_bool, t0, ifB_true, letV_eq, w1, es, eg, cc]
      · show match doneL u m with
          | .error e => h = (e : Int)
          | .ok u => h = 0 ∧ ∃ vs' v', Sto st' sp ow (one1 vs') ∧ DcOk ⟨[100], vs'⟩ ∧ vs'.getLast? = some v' ∧ v'.2.text = u ∧ i = i
        cases hdl : doneL u m with
        | error e => rw [hdl] at hm; exact hm
        | ok u' =>
          rw [hdl] at hm
          obtain ⟨h0, vs', v', a1, a2, a3, a4, _⟩ := hm
          exact ⟨h0, vs', v', a1, a2, a3, a4, rfl⟩
theorem law_parts (s : B) {x : AV} {cs : List Chg} (hx : IsSl 6 x (cs.map chgV)) : (orc vE).bare 3 [.str s, x] = some (.bool true) := by
  refine bare_of rfl ((g3_eq _ _).trans ?_)
  generalize hs0 : (St.mk 0 0 Tr.leaf) = s0
  have hr0 : s0.ro = 0 := by rw [← hs0]
  by_cases hbig : 3000 < s.length
  · have q : (s.length : Int) > 3000 := by omega
    simp only [g3, hs0, asS_str, call_works, asB_bool, ifB_not, ifB_true, ifB_decide, if_pos q, bindO_ok, unc_cons, un0_nil]
  have q : ¬ (s.length : Int) > 3000 := by omega
  have hst : StpsV [⟨0, [], 0, [], cs⟩] [.agg [.int .u8 0, .str [], .int .i64 0, .str [], x]] := ⟨⟨x, hx, rfl⟩, trivial⟩
  have hlg : ∀ {β : Type} (st : St) (K : Kv β), callS (orc vE) 8 [.sl 5 [.agg [.int .u8 0, .str [], .int .i64 0, .str [], x]] .shut] st K = K (.bool (largeS [⟨0, [], 0, [], cs⟩])) st q0 := fun st K => callS_bare st K rfl rfl (by
    rfl) (large_ok (IsSl.shut (by simp)) hst)
  cases hlS : largeS [⟨0, [], 0, [], cs⟩] with
  | true =>
    simp only [g3, hs0, asS_str, call_works, asB_bool, ifB_not, ifB_true, ifB_decide, if_neg q, hx.asOne, hx.fit1, hlg, hlS, bindO_ok, unc_cons, un0_nil]
  | false =>
    obtain ⟨_, hall⟩ := largeS_small hlS
    obtain ⟨_, _, hlen, hcl⟩ := hall _ (List.mem_singleton.2 rfl)
    simp only at hlen hcl
    have hl : ∀ {β : Type} (K : Nat → Option β), lenS x K = K cs.length := fun K => by rw [hx.len, List.length_map]
    by_cases h40 : 40 < cs.length
    · have q2 : (cs.length : Int) > 40 := by omega
      simp only [g3, hs0, asS_str, call_works, asB_bool, ifB_not, ifB_true, ifB_false, ifB_decide, if_neg q, hx.asOne, hx.fit1, hlg, hlS, hl, if_pos q2, bindO_ok, unc_cons, un0_nil]
    · have q2 : ¬ (cs.length : Int) > 40 := by omega
      obtain ⟨s1, a1, k1, n1, c1⟩ := call_new s0 hr0
      obtain ⟨s2, b2, k2, n2, c2⟩ := call_new s1 a1.1
      have a2 := a1.keeps k2
      have hab : s0.h ≠ s1.h := Nat.ne_of_lt n1
      have hop : ∀ {t : List (Int × T)}, openE [] [100] 0 s = (if validS s = true then 0 else 4) := by
        intro _
        unfold openE
        have : findN [100] [] 0 = none := rfl
        rw [this]
        simp only [List.length_nil, show ¬ 32 ≤ 0 by omega, if_false, badN_ok (n := 0) (by omega) (by omega), Bool.false_eq_true, if_neg (show ¬ 65536 < s.length by omega)]
      have hop := hop (t := [])
      obtain ⟨s3, e3, f3, o3⟩ := openS_ok a2 (by simp) [100] 0 s (by omega)
      have c3 := fun {β : Type} (K : Kv β) => call_openS e3 K
      cases hvd : validS s with
      | false =>
        rw [hvd] at hop
        have hop : openE [] [100] 0 s = 4 := hop
        have k3 := f3 (by rw [hop]; decide)
        have b3 := b2.keeps k3
        obtain ⟨s4, e4, f4, o4⟩ := openS_ok b3 (by simp) [100] 0 s (by omega)
        have c4 := fun {β : Type} (K : Kv β) => call_openS e4 K
        rw [hop] at c3 c4
        simp only [g3, hs0, asS_str, call_works, asB_bool, asI_int, ifB_not, ifB_true, ifB_false, ifB_decide, if_neg q, hx.asOne, hx.fit1, hlg, hlS, hl, if_neg q2, bindO_ok, unc_cons, un0_nil, c1, c2, c3, c4]
        rfl
      | true =>
        rw [hvd] at hop
        have hop : openE [] [100] 0 s = 0 := hop
        obtain ⟨t, oa, wt, tt, a3, k3, ha⟩ := o3 hop
        have hoa : oa = s0.h ∨ s2.h ≤ oa := ha
        have hlt1 : s1.h < s2.h := n2
        have b3 := b2.keep k3 (by rintro (h | h) <;> exact hab h.symm) (by rintro (h | h) <;> exact hab h.symm)
        obtain ⟨s4, e4, f4, o4⟩ := openS_ok b3 (by simp) [100] 0 s (by omega)
        obtain ⟨u, ob, wu, tu, b4, k4, hb⟩ := o4 hop
        have noa : ¬ (oa = s1.h ∨ oa = s1.h) := by
          have := n1
          rintro (h | h) <;> rcases hoa with h2 | h2 <;> omega
        have a4 := a3.keep k4 (by rintro (h | h) <;> exact hab h) noa
        have c4 := fun {β : Type} (K : Kv β) => call_openS e4 K
        rw [hop] at c3 c4
        have st3 : t.size ≤ 65536 := by rw [← size_text, tt]; omega
        have su : u.size ≤ 65536 := by rw [← size_text, tu]; omega
        have b0 : badN 0 = false := badN_ok (by omega) (by omega)
        have a4 : Sto s4 s0.h oa (one1 [(0, t)]) := a4
        have b4 : Sto s4 s1.h ob (one1 [(0, u)]) := b4
        have oka : DcOk ⟨[100], [(0, t)]⟩ := dc_one b0 wt st3
        have okb : DcOk ⟨[100], [(0, u)]⟩ := dc_one b0 wu su
        have hob : ob = s1.h ∨ s3.h ≤ ob := hb
        -- the stores are apart
        have ga4 := (a4.row (i := 0) rfl)
        have gb4 := (b4.row (i := 0) rfl)
        have hao : s0.h ≠ oa := by intro h; rw [← h] at ga4; have := ga4.1.symm.trans ga4.2; cases this
        have hbo : s1.h ≠ ob := by intro h; rw [← h] at gb4; have := gb4.1.symm.trans gb4.2; cases this
        have hoa2 : s2.h ≤ oa := by rcases hoa with h | h; exact absurd h.symm hao; exact h
        have hob2 : s3.h ≤ ob := by rcases hob with h | h; exact absurd h.symm hbo; exact h
        have hlo : oa < s3.h := (St.get_ok.1 (a3.row (i := 0) rfl).2).1
        have h32 := k3.h
        have hooab : oa ≠ ob := by omega
        have h0b : s0.h ≠ ob := by omega
        have h1a : s1.h ≠ oa := by omega
        -- given
        obtain ⟨y, hy, eg⟩ := call_given hx (show cs.length ≤ 1000000 by omega)
        have hcl2 : ∀ c ∈ cs, c.text.length ≤ 1000000 := fun c hc => by have := hcl c hc; omega
        have b1 : badN 1 = false := badN_ok (by omega) (by omega)
        have hch := changeS_ok a4 (one1_ok oka) (by simp [one1]) [100] 1 hy hcl2 (by omega)
        rw [change1 (v := (0, t)) rfl b1 (show (0 : Int) < 1 by decide), tt] at hch
        cases hdl : doneL s cs with
        | error e =>
          rw [hdl] at hch
          obtain ⟨he, s5, e5, k5⟩ := hch
          have a5 := a4.keeps k5
          have b5 := b4.keeps k5
          have c5 := fun {β : Type} (K : Kv β) => call_changeS e5 K
          obtain ⟨r, h, j, s6, e6, k6, hm⟩ := parts_loop hx hcl2 (by omega) cs 0 s5 [(0, u)] (0, u) rfl b5 okb rfl rfl
          rw [tu, hdl] at hm
          have hm : h = (e : Int) := hm
          subst hm
          have e6 : loopO (g3_L1 x (.mp s1.h 0)) ([.int .i64 0, .int .i64 0], s5) = _ := e6
          have a6 := a5.keep k6 h0b hooab
          obtain ⟨s7, k7, c7⟩ := lastL_ok a6 (one1_ok oka) (by simp [one1]) [100] 0 s
          have hlast : lastT (one1 [(0, t)]) [100] = (0, s, 0) := by rw [last1 (v := (0, t)) rfl, tt]
          have hdec : decide (lastT (one1 [(0, t)]) [100] = (0, s, 0)) = true := decide_eq_true hlast
          have qe : ¬ (e : Int) = 0 := by omega
          simp only [g3, hs0, asS_str, call_works, asB_bool, asI_int, ifB_not, ifB_true, ifB_false, ifB_decide, if_neg q, hx.asOne, hx.fit1, hlg, hlS, hl, if_neg q2, bindO_ok, unc_cons, un0_nil, c1, c2, c3, c4, ifB_bne, if_true, eg, c5, e6, if_neg qe, c7, hdec]
          rfl
        | ok w =>
          rw [hdl] at hch
          obtain ⟨t1, d, s5, hd0, _, wt1, st1, tt1, e5, a5, k5⟩ := hch
          have hdd : d = ⟨[100], [(0, t)]⟩ := by
            have : (one1 [(0, t)])[0]? = some ⟨[100], [(0, t)]⟩ := rfl
            rw [hd0] at this
            injection this
          subst hdd
          have a5 : Sto s5 s0.h oa (one1 [(0, t), (1, t1)]) := a5
          have oka5 : DcOk ⟨[100], [(0, t), (1, t1)]⟩ := dc_more oka (v := (0, t)) rfl b1 (show (0 : Int) < 1 by decide) wt1 st1
          have b5 := b4.keep k5 h1a hooab.symm
          have c5 := fun {β : Type} (K : Kv β) => call_changeS e5 K
          obtain ⟨r, h, j, s6, e6, k6, hm⟩ := parts_loop hx hcl2 (by omega) cs 0 s5 [(0, u)] (0, u) rfl b5 okb rfl rfl
          rw [tu, hdl] at hm
          obtain ⟨hh, vs', v', b6, ok6, hv', tv', _⟩ := hm
          subst hh
          have e6 : loopO (g3_L1 x (.mp s1.h 0)) ([.int .i64 0, .int .i64 0], s5) = _ := e6
          have a6 := a5.keep k6 h0b hooab
          obtain ⟨s7, k7, c7⟩ := call_lastS a6 (one1_ok oka5) (by simp [one1]) [100]
          have b7 := b6.keeps k7
          obtain ⟨s8, k8, c8⟩ := call_lastS b7 (one1_ok ok6) (by simp [one1]) [100]
          rw [last1 (v := (1, t1)) rfl] at c7
          rw [last1 hv'] at c8
          have hbeq : (t1.text == v'.2.text) = true := by rw [tt1, tv']; simp
          simp only [g3, hs0, asS_str, call_works, asB_bool, asI_int, ifB_not, ifB_true, ifB_false, ifB_decide, if_neg q, hx.asOne, hx.fit1, hlg, hlS, hl, if_neg q2, bindO_ok, unc_cons, un0_nil, c1, c2, c3, c4, ifB_bne, ifB_beq, if_true, eg, c5, e6, c7, c8, unT_tup, nthS_zero, nthS_one, nthS_two, hbeq]
          rfl
end Go.Proofs.YticccmpaekphgaaDoor.Vm
/- The store's laws: arguments. -/
set_option maxRecDepth 100000
namespace Go.Proofs.YticccmpaekphgaaDoor.Vm
open Go Go.VM Go.Proofs Go.Store

def lawS : List TypeId := [9, 3, 4, 5, 53, 55, 66, 22, 26, 27]
theorem lawS_ok : ∀ t, inS lawS t = true → okTy Tryd.prog lawS t = true := by
  intro t ht
  have : t ∈ lawS := by
    obtain ⟨u, hu, e⟩ := List.any_eq_true.1 ht
    rw [← Nat.eq_of_beq_eq_true e]; exact hu
  exact List.all_eq_true.1 (show (lawS.all fun t => okTy Tryd.prog lawS t) = true by kernel_rfl) t this
theorem av_str {n t : Nat} {cs : List AV} (hu : Tryd.prog.underlying t = some .string) (h : AvOf Tryd.prog n t cs) : ∃ s, cs = [.str s] ∧ s.length ≤ maxLen := by
  cases n with
  | zero => cases h
  | succ n => simp only [AvOf, hu] at h; exact h
theorem av_bool {n t : Nat} {cs : List AV} (hu : Tryd.prog.underlying t = some .bool) (h : AvOf Tryd.prog n t cs) : ∃ b, cs = [.bool b] := by
  cases n with
  | zero => cases h
  | succ n => simp only [AvOf, hu] at h; exact h
theorem av_int {n t : Nat} {k : IntKind} {cs : List AV} (hu : Tryd.prog.underlying t = some (.int k)) (h : AvOf Tryd.prog n t cs) : ∃ m, cs = [.int k m] ∧ k.min ≤ m ∧ m ≤ k.max := by
  cases n with
  | zero => cases h
  | succ n => simp only [AvOf, hu] at h; exact h
theorem sl_of {n t e : Nat} {cs : List AV} {Q : AV → Prop} (hu : Tryd.prog.underlying t = some (.slice e)) (h : AvOf Tryd.prog n t cs) (hQ : ∀ a, AvOf Tryd.prog (n - 1) e a → Q (mkV (isSt Tryd.prog e) a)) :
    ∃ x es, cs = [x] ∧ IsSl (Tryd.prog.cellsOf e) x es ∧ ∀ v ∈ es, Q v := by
  cases n with
  | zero => cases h
  | succ n =>
    simp only [AvOf, hu] at h
    rcases h with rfl | rfl | ⟨L, rfl, hl, hL⟩
    · exact ⟨_, [], rfl, IsSl.nils, by simp⟩
    · exact ⟨_, [], rfl, IsSl.emp, by simp⟩
    · refine ⟨_, _, rfl, IsSl.wide (by rw [List.length_map]; simpa [maxLen] using hl), fun v hv => ?_⟩
      obtain ⟨a, ha, rfl⟩ := List.mem_map.1 hv
      exact hQ a (hL a ha)
theorem pos_of {n : Nat} {cs : List AV} (h : AvOf Tryd.prog n 53 cs) : ∃ x y, cs = [.int .i64 x, .int .i64 y] := by
  cases n with
  | zero => cases h
  | succ n =>
    simp only [AvOf, Tryd.underlying53] at h
    obtain ⟨a0, b0, rfl, h0, a1, b1, rfl, h1, rfl⟩ := h
    obtain ⟨x, rfl, _⟩ := av_int Tryd.underlying3 h0
    obtain ⟨y, rfl, _⟩ := av_int Tryd.underlying3 h1
    exact ⟨x, y, rfl⟩
theorem range_of {n : Nat} {cs : List AV} (h : AvOf Tryd.prog n 55 cs) : ∃ a b c d, cs = [.int .i64 a, .int .i64 b, .int .i64 c, .int .i64 d] := by
  cases n with
  | zero => cases h
  | succ n =>
    simp only [AvOf, Tryd.underlying55] at h
    obtain ⟨a0, b0, rfl, h0, a1, b1, rfl, h1, rfl⟩ := h
    obtain ⟨x, y, rfl⟩ := pos_of h0
    obtain ⟨z, w, rfl⟩ := pos_of h1
    exact ⟨x, y, z, w, rfl⟩
theorem change_of {n : Nat} {cs : List AV} (h : AvOf Tryd.prog n 66 cs) : ∃ c : Chg, AV.agg cs = chgV c := by
  cases n with
  | zero => cases h
  | succ n =>
    simp only [AvOf, Tryd.underlying66] at h
    obtain ⟨a0, b0, rfl, h0, a1, b1, rfl, h1, a2, b2, rfl, h2, rfl⟩ := h
    obtain ⟨b, rfl⟩ := av_bool Tryd.underlying4 h0
    obtain ⟨x, y, z, w, rfl⟩ := range_of h1
    obtain ⟨s, rfl, _⟩ := av_str Tryd.underlying9 h2
    exact ⟨⟨b, x, y, z, w, s⟩, rfl⟩
theorem chgs_of : ∀ {es : List AV}, (∀ v ∈ es, ∃ c : Chg, v = chgV c) → ∃ l : List Chg, es = l.map chgV
  | [], _ => ⟨[], rfl⟩
  | v :: vs, h => by
    obtain ⟨d, rfl⟩ := h v (by simp)
    obtain ⟨ds, rfl⟩ := chgs_of (es := vs) fun u hu => h u (List.mem_cons_of_mem _ hu)
    exact ⟨d :: ds, rfl⟩
theorem chgsl_of {n : Nat} {cs : List AV} (h : AvOf Tryd.prog n 22 cs) : ∃ (x : AV) (l : List Chg), cs = [x] ∧ IsSl 6 x (l.map chgV) := by
  have hz : Tryd.prog.cellsOf 66 = 6 := by kernel_rfl
  have hst : isSt Tryd.prog 66 = true := by kernel_rfl
  obtain ⟨x, es, rfl, hx, hes⟩ := sl_of (Q := fun v => ∃ c : Chg, v = chgV c) Tryd.underlying22 h fun a ha => by
    rw [hst]
    exact change_of ha
  rw [hz] at hx
  obtain ⟨l, rfl⟩ := chgs_of hes
  exact ⟨x, l, rfl, hx⟩
end Go.Proofs.YticccmpaekphgaaDoor.Vm
