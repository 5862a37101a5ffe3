/-
  A part of the proof.
-/
import Derived.Test.YtcghfoagjphaoaaGreatDoorVmCB
set_option maxRecDepth 1000000
set_option linter.unusedSimpArgs false
/- A row from its end on, by the program: a copy that is turned in place. -/
namespace Go.Proofs.YtcghfoagjphaoaaGreatDoor.Vm
open Go Go.VM Go.Proofs Go.Lex
theorem tok_els (l : List (Nat × List UInt8)) : Els 2 true (l.map tok) := by
  have key : ∀ v ∈ l.map tok, ∃ p : Nat × List UInt8, v = tok p := fun v hv => by
    obtain ⟨p, _, rfl⟩ := List.mem_map.1 hv
    exact ⟨p, rfl⟩
  refine ⟨fun v hv => ?_, fun v hv => ?_, fun v hv c hc => ?_, fun v hv => ?_, fun v hv _ => ?_, fun v hv h => by cases h⟩
  · obtain ⟨p, rfl⟩ := key v hv; rfl
  · obtain ⟨p, rfl⟩ := key v hv; rfl
  · obtain ⟨p, rfl⟩ := key v hv
    rw [tok_cells] at hc
    simp only [List.mem_cons, List.mem_nil_iff, or_false] at hc
    rcases hc with rfl | rfl
    · exact fz_int _ _
    · exact fz_str _
  · obtain ⟨p, rfl⟩ := key v hv; rfl
  · obtain ⟨p, rfl⟩ := key v hv; exact ⟨_, rfl⟩
theorem tok_fit (l : List (Nat × List UInt8)) {β : Type} (K : List AV → Option β) : fitTs true (l.map tok) K = K (l.map tok) :=
  fitTs_of (fun v hv K => by
    obtain ⟨p, _, rfl⟩ := List.mem_map.1 hv
    rfl) K
theorem tok_sizes (l : List (Nat × List UInt8)) : sizesOk 2 (l.map tok) = true := sizesOk_of (tok_els l).size
/-- Turned in place. -/
theorem rev_loop {id : Nat} {T : TypeId} {n : Nat} (hn : n ≤ 1000000) : ∀ (k : Nat) (L mid R : List (Nat × List UInt8)) (st : St), mid.length ≤ k → L.length = R.length → (L ++ mid ++ R).length = n → st.get id = .ok (.cells T (flat ((L ++ mid ++ R).map tok))) → st.ro ≤ id →
    ∃ st', loopO (w20_L1 (.ms id 0 2 n 0)) ([.int .i64 (L.length : Int), .int .i64 ((L.length : Int) + (mid.length : Int) - 1)], st) = some (0, [], st') ∧ st'.get id = .ok (.cells T (flat ((L ++ mid.reverse ++ R).map tok)))
  | k, L, [], R, st, _, _, hlen, hg, hro => by
    have q : ¬ (L.length : Int) < (L.length : Int) + ((([] : List (Nat × List UInt8)).length : Nat) : Int) - 1 := by simp; omega
    refine ⟨st, loopO_inr ?_, by simpa using hg⟩
    simp only [w20_L1, unc_cons, asI_int, un0_nil, ifB_decide, if_neg q]
  | k, L, [u], R, st, _, _, hlen, hg, hro => by
    have q : ¬ (L.length : Int) < (L.length : Int) + ((([u] : List (Nat × List UInt8)).length : Nat) : Int) - 1 := by simp
    refine ⟨st, loopO_inr ?_, by simpa using hg⟩
    simp only [w20_L1, unc_cons, asI_int, un0_nil, ifB_decide, if_neg q]
  | 0, L, u :: v :: l, R, _, h, _, _, _, _ => by simp at h
  | k + 1, L, u :: v :: l, R, st, hk, hLR, hlen, hg, hro => by
    obtain ⟨m, w, hm⟩ : ∃ m w, v :: l = m ++ [w] := ⟨(v :: l).dropLast, (v :: l).getLast (by simp), (List.dropLast_concat_getLast (by simp)).symm⟩
    rw [hm] at hk hlen hg ⊢
    simp only [List.length_append, List.length_cons, List.length_nil] at hk hlen
    have q : (L.length : Int) < (L.length : Int) + (((u :: (m ++ [w])).length : Nat) : Int) - 1 := by simp; omega
    have ej : (L.length : Int) + (((u :: (m ++ [w])).length : Nat) : Int) - 1 = ((L.length + m.length + 1 : Nat) : Int) := by simp; omega
    have e0 : L ++ u :: (m ++ [w]) ++ R = L ++ u :: (m ++ w :: R) := by simp
    have gi : (L ++ u :: (m ++ w :: R))[L.length]? = some u := by simp
    have gj : (L ++ u :: (m ++ w :: R))[L.length + m.length + 1]? = some w := by
      rw [List.getElem?_append_right (by omega), show L.length + m.length + 1 - L.length = m.length + 1 by omega, List.getElem?_cons_succ, List.getElem?_append_right (by omega), Nat.sub_self]; rfl
    have s1 : (L ++ u :: (m ++ w :: R)).set L.length w = L ++ w :: (m ++ w :: R) := by
      rw [List.set_append_right _ _ (by omega), Nat.sub_self]; rfl
    have s2 : (L ++ w :: (m ++ w :: R)).set (L.length + m.length + 1) u = (L ++ [w]) ++ m ++ (u :: R) := by
      rw [List.set_append_right _ _ (by omega), show L.length + m.length + 1 - L.length = m.length + 1 by omega, List.set_cons_succ, List.set_append_right _ _ (by omega), Nat.sub_self]
      simp
    rw [e0] at hg
    have hn1 : (L ++ u :: (m ++ w :: R)).length = n := by simp; omega
    have a1 := fun {β : Type} (K : AV → List Nat → Option β) => load_el (tok_els _) hg (k := L.length + m.length + 1) (v := tok w) (by rw [List.getElem?_map, gj]; rfl) K
    have a2 := fun {β : Type} (K : AV → List Nat → Option β) => load_el (tok_els _) hg (k := L.length) (v := tok u) (by rw [List.getElem?_map, gi]; rfl) K
    obtain ⟨f1, hf1, b1⟩ := store_el (O := orc vE) (tok_els _) hg hro (k := L.length) (w := tok w) (by rw [List.length_map]; omega) rfl
    have hg2 : (st.put id (.cells T (flat (((L ++ u :: (m ++ w :: R)).map tok).set L.length (tok w))))).get id = .ok (.cells T (flat ((L ++ w :: (m ++ w :: R)).map tok))) := by
      rw [St.get_put_same (St.get_ok.1 hg).1, ← List.map_set, s1]
    have hro1 : (st.put id (.cells T (flat (((L ++ u :: (m ++ w :: R)).map tok).set L.length (tok w))))).ro ≤ id := hro
    generalize st.put id (.cells T (flat (((L ++ u :: (m ++ w :: R)).map tok).set L.length (tok w)))) = st1 at b1 hg2 hro1
    obtain ⟨f2, hf2, b2⟩ := store_el (O := orc vE) (tok_els _) hg2 hro1 (k := L.length + m.length + 1) (w := tok u) (by rw [List.length_map]; simp; omega) rfl
    have hg3 : (st1.put id (.cells T (flat (((L ++ w :: (m ++ w :: R)).map tok).set (L.length + m.length + 1) (tok u))))).get id = .ok (.cells T (flat (((L ++ [w]) ++ m ++ (u :: R)).map tok))) := by
      rw [St.get_put_same (St.get_ok.1 hg2).1, ← List.map_set, s2]
    have hro2 : (st1.put id (.cells T (flat (((L ++ w :: (m ++ w :: R)).map tok).set (L.length + m.length + 1) (tok u))))).ro ≤ id := hro1
    generalize st1.put id (.cells T (flat (((L ++ w :: (m ++ w :: R)).map tok).set (L.length + m.length + 1) (tok u)))) = st2 at b2 hg3 hro2
    obtain ⟨st', e1, e2⟩ := rev_loop hn k (L ++ [w]) m (u :: R) st2 (by omega) (by simp; omega) (by simp; omega) hg3 hro2
    refine ⟨st', ?_, by rw [e2]; simp⟩
    have el : ((L ++ [w]).length : Int) = ((L.length + 1 : Nat) : Int) := by simp
    have em : ((L ++ [w]).length : Int) + (m.length : Int) - 1 = ((L.length + m.length : Nat) : Int) := by simp; omega
    rw [em, el] at e1
    rw [loopO_inl (s' := ([.int .i64 ((L.length + 1 : Nat) : Int), .int .i64 ((L.length + m.length : Nat) : Int)], st2)), e1]
    rw [ej] at q ⊢
    have i1 := fun {β : Type} (st : St) (K : AV → List Nat → Option β) => idx_ms (z := 2) (id := id) (c := 0) (show L.length < n by omega) st K
    have i2 := fun {β : Type} (st : St) (K : AV → List Nat → Option β) => idx_ms (z := 2) (id := id) (c := 0) (show L.length + m.length + 1 < n by omega) st K
    have w1 := wrapA1 (show L.length + 1 ≤ 9223372036854775807 by omega)
    have w2 : IntKind.wrap .i64 (((L.length + m.length + 1 : Nat) : Int) - 1) = ((L.length + m.length : Nat) : Int) := wrapS (m := 1) (n := L.length + m.length + 1) (by omega) (by omega)
    unfold tok at a1 a2 b1 b2
    subst hf1 hf2
    simp only [cells_agg] at b1 b2
    simp only [w20_L1, unc_cons, asI_int, un0_nil, ifB_decide, if_pos q, i1, i2, a1, a2, unA_agg, asS_str, cells_agg, b1, b2, letV_eq, w1, w2, apart_wrote1, Bool.and_self, chk_true]
/-- What Clone makes of elements. -/
theorem clone_ok {x : AV} {ps : List (Nat × List UInt8)} (hx : IsSl 2 x (ps.map tok)) (hl : ps.length ≤ 1000000) (st : St) :
    ∃ v st', (orc vE).wide 19 [x] st = some (v, st') ∧ st'.ro = st.ro ∧
      ((ps = [] ∧ IsSl 2 v [] ∧ st' = st) ∨ (ps ≠ [] ∧ v = .ms st.h 0 2 ps.length 0 ∧ ∃ T, st'.get st.h = .ok (.cells T (flat (ps.map tok))))) := by
  by_cases hne : ps = []
  · subst hne
    have hx2 := hx.2
    rcases hx2 with ⟨rfl | rfl, _⟩ | rfl | rfl
    · exact ⟨.nils, st, wide_of ((w19_eq _ _).trans rfl), rfl, .inl ⟨rfl, IsSl.nils, rfl⟩⟩
    · exact ⟨.sl 2 [] .shut, st, wide_of ((w19_eq _ _).trans rfl), rfl, .inl ⟨rfl, IsSl.shut (by simp), rfl⟩⟩
    · exact ⟨.sl 2 [] .shut, st, wide_of ((w19_eq _ _).trans rfl), rfl, .inl ⟨rfl, IsSl.shut (by simp), rfl⟩⟩
    · exact ⟨.sl 2 [] .shut, st, wide_of ((w19_eq _ _).trans rfl), rfl, .inl ⟨rfl, IsSl.shut (by simp), rfl⟩⟩
  · have hne' : ps.map tok ≠ [] := by simpa using hne
    refine ⟨.ms st.h 0 2 ps.length 0, st.add (.cells (1000000 + 39) (flat (ps.map tok))), wide_of ((w19_eq _ _).trans ?_), ?_, .inr ⟨hne, rfl, 1000000 + 39, St.get_add_new⟩⟩
    · have hm := msApp_of (i := TI.mk (U.struct [(0, 5), (1, 9)]) 2 24 [AV.int .u8 0, AV.str []] true true) (e := 39) (z := 2) (tok_els ps) hne' (by
        have h1 : (ps.map tok).length ≤ 1000000 := by rw [List.length_map]; exact hl
        simp only [roomOk, ble_of (show (ps.map tok).length * 24 ≤ 70368744177664 by omega), ble_of (show (ps.map tok).length ≤ 70368744177664 by omega)]; rfl)
      simp only [w19, nilS_sl hx hne', ifB_false, hx.elems, hm, planS_new, oneOf_one, List.length_map]
    · rfl
theorem rev_empty {x : AV} (hx : IsSl 2 x []) : (orc vE).bare 20 [x] = some (.tup []) := by
  rcases hx.2 with ⟨rfl | rfl, _⟩ | rfl | rfl
  all_goals
    refine bare_of rfl ((g20_eq _).trans ?_)
    have q : ¬ (0 : Int) < -1 := by omega
    have w : IntKind.wrap .i64 (((0 : Nat) : Int) - 1) = -1 := rfl
    have e : ∀ (x : AV) (st : St), loopO (g20_L1 x) ([.int .i64 0, .int .i64 (-1)], st) = some (0, [], st) := fun x st => loopO_inr (by simp only [g20_L1, unc_cons, asI_int, un0_nil, ifB_decide, if_neg q])
    simp only [g20, lenS_nils, lenS_sl, lenS_es, List.length_nil, letV_eq, w, e, bindO_ok, un0_nil]
theorem turned_ok {x : AV} {ps : List (Nat × List UInt8)} (hx : IsSl 2 x (ps.map tok)) (hl : ps.length ≤ 1000000) : ∃ y, (orc vE).bare 13 [x] = some y ∧ IsSl 2 y (ps.reverse.map tok) := by
  obtain ⟨v, st', hc, hro, h⟩ := clone_ok hx hl (St.mk 0 0 Tr.leaf)
  have cc := fun {β : Type} (K : Kv β) => callS_wide (E := vE) K rfl (by
    simp only [List.map_cons, List.map_nil, hx.strip]
    show (_ && !true) = false
    simp) hc
  rcases h with ⟨rfl, hv, rfl⟩ | ⟨hne, rfl, T, hg⟩
  · have cr := fun {β : Type} (st : St) (K : Kv β) => callS_bare (f := 20) st K rfl (by simp only [List.map_cons, List.map_nil, hv.strip]) (by simp [bares, VM.bare.bareAll, hv.bare]) (rev_empty hv)
    refine ⟨v, bare_of rfl ((g13_eq _).trans ?_), hv⟩
    simp only [g13, cc, cr, oneOf_one, frz_of (fz_sl hv) (by omega) hv.bare]
  · obtain ⟨st2, e1, e2⟩ := rev_loop (id := 0) (T := T) (n := ps.length) hl ps.length [] ps [] st' (Nat.le_refl _) rfl (by simp) (by simpa using hg) (by rw [hro]; exact Nat.le_refl _)
    have hn := List.length_pos_iff.2 hne
    have w := wrapS (show 1 ≤ ps.length by omega) (show ps.length ≤ 9223372036854775807 by omega)
    have e0 : ((([] : List (Nat × List UInt8)).length : Nat) : Int) + (ps.length : Int) - 1 = ((ps.length - 1 : Nat) : Int) := by simp; omega
    rw [e0] at e1
    have e1 : loopO (w20_L1 (.ms 0 0 2 ps.length 0)) ([.int .i64 0, .int .i64 ((ps.length - 1 : Nat) : Int)], st') = some (0, [], st2) := e1
    have hr : (orc vE).wide 20 [.ms 0 0 2 ps.length 0] st' = some (.tup [], st2) := wide_of ((w20_eq _ _).trans (by
      have hlen : ∀ {β : Type} (K : Nat → Option β), lenS (.ms 0 0 2 ps.length 0) K = K ps.length := fun K => rfl
      have w : IntKind.wrap .i64 ((ps.length : Int) - 1) = ((ps.length - 1 : Nat) : Int) := w
      simp only [w20, hlen, letV_eq, w, e1, bindO_ok, un0_nil]))
    have cr := fun {β : Type} (K : Kv β) => callS_wide (E := vE) K rfl (by rfl) hr
    simp only [List.nil_append, List.append_nil] at e2
    have hrev : ps.reverse.map tok ≠ [] := by simpa using hne
    have hf := freeze_ms (tok_els ps.reverse) e2 hrev 98
    rw [List.length_map, List.length_reverse] at hf
    refine ⟨.sl 2 (ps.reverse.map tok) .wide, bare_of rfl ((g13_eq _).trans ?_), IsSl.wide (by simp; omega)⟩
    have hb : VM.bare (.sl 2 (ps.reverse.map tok) .wide) = true := rfl
    have hz : ∀ (K : AV → Option AV), frzS st2 0 (.ms 0 0 2 ps.length 0) K = K (.sl 2 (ps.reverse.map tok) .wide) := fun K => by simp only [frzS, hf, hb, chk_true]
    have cc : ∀ {β : Type} (K : Kv β), callS (orc vE) 19 [x] (St.mk 0 0 Tr.leaf) K = K (.ms 0 0 2 ps.length 0) st' ⟨[], .all (St.mk 0 0 Tr.leaf) st'⟩ := fun K => cc K
    simp only [g13, cc, cr, oneOf_one, hz]
end Go.Proofs.YtcghfoagjphaoaaGreatDoor.Vm
/- Tokens again, by the program. -/
namespace Go.Proofs.YtcghfoagjphaoaaGreatDoor.Vm
open Go Go.VM Go.Proofs Go.Lex
theorem okS_drop {s : List UInt8} {n : Nat} (hl : s.length ≤ 65536) (hv : validS (s.drop n) = validS s) : okS (s.drop n) = okS s := by
  unfold okS
  rw [if_neg (show ¬ 65536 < (s.drop n).length by rw [List.length_drop]; omega), if_neg (show ¬ 65536 < s.length by omega), hv]
theorem tokens_few : ∀ (n : Nat) (s : List UInt8), s.length ≤ n → (tokens s).length ≤ s.length ∧ (bytesL (tokens s)).length = s.length
  | 0, s, h => by
    rw [List.eq_nil_of_length_eq_zero (Nat.le_zero.1 h)]
    exact ⟨Nat.le_refl _, rfl⟩
  | n + 1, s, h => by
    by_cases hne : s = []
    · subst hne; exact ⟨Nat.le_refl _, rfl⟩
    have hc := cut_le hne
    obtain ⟨h1, h2⟩ := tokens_few n (s.drop (cut s).2) (by rw [List.length_drop]; omega)
    rw [List.length_drop] at h1 h2
    rw [tokens_cons hne, bytesL_cons, List.length_cons, List.length_append, List.length_take]
    omega
/-- What is cut again, and what stays. -/
theorem again_ok {s x : List UInt8} (f t : Int) (hx : x.length ≤ 1000000) : ∃ a b, (orc vE).bare 10 [.str s, edV f t x] = some (.tup [.str (doS s f t x).1, a, b, .int .i64 (doS s f t x).2]) ∧
    IsSl 2 a (if (doS s f t x).2 = 0 then (tokens s).map tok else []) ∧ IsSl 2 b (if (doS s f t x).2 = 0 then (tokens (doS s f t x).1).map tok else []) := by
  obtain ⟨a, ha, hsa⟩ := tokens_any s
  have c1 := fun {β : Type} (st : St) (K : Kv β) => callS_bare st K rfl rfl rfl ha
  by_cases h1 : okS s = 0
  · obtain ⟨hs, hv⟩ := okS_zero h1
    rw [if_pos h1] at hsa
    unfold doS
    rw [if_neg (by simpa using h1)]
    by_cases h2 : f < 0 ∨ f > t ∨ t > (s.length : Int)
    · rw [if_pos h2]
      refine ⟨.nils, .nils, bare_of rfl ((g10_eq _ _).trans ?_), by simpa using IsSl.nils, by simpa using IsSl.nils⟩
      by_cases a1 : f < 0
      · simp only [g10, edV, asS_str, unA_agg, unc_cons, asI_int, un0_nil, c1, unT_tup, nthS_zero, nthS_one, ifB_bne, h1, if_true, bindO_ok, ifB_decide, if_pos a1, asB_bool, ifB_true]
      · by_cases a2 : f > t
        · simp only [g10, edV, asS_str, unA_agg, unc_cons, asI_int, un0_nil, c1, unT_tup, nthS_zero, nthS_one, ifB_bne, h1, if_true, bindO_ok, ifB_decide, if_neg a1, if_pos a2, asB_bool, ifB_true]
        · have a3 : t > (s.length : Int) := by omega
          simp only [g10, edV, asS_str, unA_agg, unc_cons, asI_int, un0_nil, c1, unT_tup, nthS_zero, nthS_one, ifB_bne, h1, if_true, bindO_ok, ifB_decide, if_neg a1, if_neg a2, if_pos a3, asB_bool]
    · rw [if_neg h2]
      have a1 : ¬ f < 0 := by omega
      have a2 : ¬ f > t := by omega
      have a3 : ¬ t > (s.length : Int) := by omega
      obtain ⟨n, rfl⟩ := Int.eq_ofNat_of_zero_le (show 0 ≤ f by omega)
      obtain ⟨m, rfl⟩ := Int.eq_ofNat_of_zero_le (show 0 ≤ t by omega)
      have ho : outE s (n : Int) (m : Int) x = s.take n ++ x ++ s.drop m := rfl
      have b1 : Nat.ble ((s.take n).length + x.length) 9223372036854775807 = true := ble_of (by rw [List.length_take]; omega)
      have b2 : Nat.ble ((s.take n ++ x).length + (s.drop m).length) 9223372036854775807 = true := ble_of (by rw [List.length_append, List.length_take, List.length_drop]; omega)
      obtain ⟨f1, f2⟩ := tokens_few s.length s (Nat.le_refl _)
      have hk := fun (st : St) => keep_loop hsa (by omega) n st (tokens s) 0 0 rfl (Nat.zero_le _) (by omega)
      simp only [Nat.zero_add, Nat.sub_zero] at hk
      have hk : ∀ st, loopO (g10_L1 (n : Int) a) ([.int .i64 0, .int .i64 0], st) = _ := hk
      have hpl : (s.take n).length = n := by rw [List.length_take]; omega
      obtain ⟨k1, k2, k3⟩ := keep_tokens s.length (s.take n) (s.drop n) (x ++ s.drop m) (by rw [List.take_append_drop]; exact Nat.le_refl _) (by rw [List.take_append_drop]; exact hv)
      rw [List.take_append_drop, hpl] at k1 k2 k3
      rw [← List.append_assoc, ← ho] at k2 k3
      have hkl := keeps_le (tokens s) n
      generalize hK : keeps n (tokens s) = K at hk k1 k2 k3 hkl
      generalize hA : (bytesL ((tokens s).take K)).length = A at hk k1 k2 k3
      by_cases h3 : 65536 < (outE s n m x).length
      · have e : okS (outE s n m x) = 40 := by unfold okS; rw [if_pos h3]
        rw [if_pos (by rw [e]; decide), e]
        have q : ((outE s n m x).length : Int) > 65536 := by omega
        rw [ho] at q
        refine ⟨.nils, .nils, bare_of rfl ((g10_eq _ _).trans ?_), by simpa using IsSl.nils, by simpa using IsSl.nils⟩
        simp only [g10, edV, asS_str, unA_agg, unc_cons, asI_int, un0_nil, c1, unT_tup, nthS_zero, nthS_one, ifB_bne, h1, if_true, bindO_ok, ifB_decide, if_neg a1, if_neg a2, if_neg a3, asB_bool, ifB_false, uptoS_nat (show n ≤ s.length by omega), uptoS_nat (show m ≤ s.length by omega), letV_eq, List.drop_zero, b1, b2, chk_true, List.take_length, hk, if_pos q]
      · have hol : (outE s n m x).length ≤ 65536 := by omega
        have q : ¬ ((outE s n m x).length : Int) > 65536 := by omega
        rw [ho] at q
        have hAl : A ≤ (s.take n ++ x ++ s.drop m).length := by
          rw [List.length_append, List.length_append, hpl]; omega
        obtain ⟨b, hb, hsb⟩ := tokens_any ((outE s n m x).drop A)
        rw [okS_drop hol k3] at hb hsb
        rw [ho] at hb
        have c2 := fun {β : Type} (st : St) (K : Kv β) => callS_bare st K rfl rfl rfl hb
        by_cases h4 : okS (outE s n m x) = 0
        · rw [if_neg (by simpa using h4)]
          rw [if_pos h4] at hsb
          rw [show okS (s.take n ++ x ++ s.drop m) = 0 from h4] at c2
          obtain ⟨y, hy, hsl⟩ := hsa.slice3 (m := K) (by rw [List.length_map]; exact hkl)
          have hown := Own.of3 (st := St.mk 0 0 Tr.leaf) (Nat.le_refl _) 39 hsa.1 hy
          obtain ⟨g1, g2⟩ := tokens_few _ ((outE s n m x).drop A) (Nat.le_refl _)
          rw [List.length_drop] at g1
          obtain ⟨z, st', o', _, fx, ap⟩ := own_apps (b := 24) ((tokens ((outE s n m x).drop A)).map tok) hown (fun _ => room_of (by rw [List.length_map, List.length_take, List.length_map]; omega) (by omega) (by omega))
          rw [← List.map_take, ← List.map_append, ← k2] at o'
          rw [ho] at ap
          obtain ⟨b', hb', e1⟩ := own_freeze o'
          have hfz : ∀ (K : AV → Option AV), frzS st' 0 (.tup [.str (s.take n ++ x ++ s.drop m), a, z, .int .i64 0]) K = K (.tup [.str (s.take n ++ x ++ s.drop m), a, b', .int .i64 0]) := fun K =>
            frz_tup (allE_cons rfl (allE_cons (fz_sl hsa st' 0 99 (by omega)) (allE_cons (e1 98) (allE_cons rfl allE_nil)))) (by simp only [bares_cons, hsa.bare, hb'.bare]; rfl) K
          refine ⟨a, b', bare_of rfl ((g10_eq _ _).trans ?_), by simpa using hsa, by simpa using hb'⟩
          simp only [g10, edV, asS_str, unA_agg, unc_cons, asI_int, un0_nil, c1, unT_tup, nthS_zero, nthS_one, ifB_bne, h1, if_true, bindO_ok, ifB_decide, if_neg a1, if_neg a2, if_neg a3, asB_bool, ifB_false, uptoS_nat (show n ≤ s.length by omega), uptoS_nat (show m ≤ s.length by omega), letV_eq, List.drop_zero, b1, b2, chk_true, List.take_length, hk, if_neg q, uptoS_nat hAl, c2, hsl, hsb.elems, tok_fit, tok_sizes, ap, hfz, ho]
        · rw [if_pos h4]
          refine ⟨.nils, .nils, bare_of rfl ((g10_eq _ _).trans ?_), by simpa [h4] using IsSl.nils, by simpa [h4] using IsSl.nils⟩
          simp only [g10, edV, asS_str, unA_agg, unc_cons, asI_int, un0_nil, c1, unT_tup, nthS_zero, nthS_one, ifB_bne, h1, if_true, bindO_ok, ifB_decide, if_neg a1, if_neg a2, if_neg a3, asB_bool, ifB_false, uptoS_nat (show n ≤ s.length by omega), uptoS_nat (show m ≤ s.length by omega), letV_eq, List.drop_zero, b1, b2, chk_true, List.take_length, hk, if_neg q, uptoS_nat hAl, c2, if_neg (show ¬ okS (s.take n ++ x ++ s.drop m) = 0 from h4), ho]
  · unfold doS
    rw [if_pos h1]
    refine ⟨.nils, .nils, bare_of rfl ((g10_eq _ _).trans ?_), by simpa [h1] using IsSl.nils, by simpa [h1] using IsSl.nils⟩
    simp only [g10, edV, asS_str, unA_agg, unc_cons, asI_int, un0_nil, c1, unT_tup, nthS_zero, nthS_one, ifB_bne, if_neg h1]
end Go.Proofs.YtcghfoagjphaoaaGreatDoor.Vm
/- Relex, Do, Row: what they answer. -/
namespace Go.Proofs.YtcghfoagjphaoaaGreatDoor.Vm
open Go Go.VM Go.Proofs Go.Lex
/-- How many tokens are the same at both ends. -/
def headN (A B : List (Nat × List UInt8)) : Nat := alike A B
def tailN (A B : List (Nat × List UInt8)) : Nat := alike (A.drop (alike A B)).reverse (B.drop (alike A B)).reverse
theorem do_ok {s x : List UInt8} (f t : Int) (hx : x.length ≤ 1000000) : (orc vE).bare 5 [.str s, edV f t x] = some (.tup [.str (doS s f t x).1, .int .i64 (doS s f t x).2]) := by
  refine bare_of rfl ((g5_eq _ _).trans ?_)
  obtain ⟨a, b, h, _, _⟩ := again_ok (s := s) f t hx
  have c1 := fun {β : Type} (st : St) (K : Kv β) => callS_bare st K rfl rfl rfl h
  unfold edV at c1 ⊢
  simp only [g5, asS_str, unA_agg, unc_cons, asI_int, un0_nil, c1, unT_tup, nthS_zero, nthS_one, nthS_two, nthS_three]
theorem doS_fail {s x : List UInt8} {f t : Int} (h : (doS s f t x).2 ≠ 0) : (doS s f t x).1 = [] := by
  unfold doS at h ⊢
  split
  · rfl
  · rename_i h1
    rw [if_neg h1] at h
    split
    · rfl
    · rename_i h2
      rw [if_neg h2] at h
      split
      · rfl
      · rename_i h3
        rw [if_neg h3] at h
        exact absurd rfl h
theorem doS_len {s x : List UInt8} {f t : Int} : (doS s f t x).1.length ≤ 65536 := by
  by_cases h : (doS s f t x).2 = 0
  · obtain ⟨_, _, _, _, h5, h6⟩ := doS_ok h
    rw [h6]
    exact (okS_zero h5).1
  · rw [doS_fail h]; simp
theorem relex_fail {s x : List UInt8} (f t : Int) (hx : x.length ≤ 1000000) (h : (doS s f t x).2 ≠ 0) : (orc vE).bare 7 [.str s, edV f t x] = some (.tup [.nils, .agg [.int .i64 0, .int .i64 0], .int .i64 (doS s f t x).2]) := by
  refine bare_of rfl ((g7_eq _ _).trans ?_)
  obtain ⟨a, b, ha, _, _⟩ := again_ok (s := s) f t hx
  have c1 := fun {β : Type} (st : St) (K : Kv β) => callS_bare st K rfl rfl rfl ha
  unfold edV at c1 ⊢
  obtain ⟨st1, g1, _, _, fx, e1⟩ := var_put (O := orc vE) (st := St.mk 1 0 (Tr.node (some (VM.Obj.cells 32 [AV.int .i64 0, AV.int .i64 0])) Tr.leaf Tr.leaf)) (id := 0) (t := 32) (z := 2) (old := [.int .i64 0, .int .i64 0]) (cs := [.int .i64 0, .int .i64 0]) (.agg [.int .i64 0, .int .i64 0]) rfl rfl rfl (Nat.le_refl _)
  simp only [g7, asS_str, unA_agg, unc_cons, asI_int, un0_nil, c1, unT_tup, nthS_zero, nthS_one, nthS_two, nthS_three, ifB_bne, if_neg h, e1, loadS_mp g1, List.drop_zero, takeO2, bindO_ok]
theorem relex_ok {s x : List UInt8} (f t : Int) (hx : x.length ≤ 1000000) (h : (doS s f t x).2 = 0) : ∃ b, (orc vE).bare 7 [.str s, edV f t x] =
      some (.tup [b, .agg [.int .i64 (headN (tokens s) (tokens (doS s f t x).1) : Int), .int .i64 (tailN (tokens s) (tokens (doS s f t x).1) : Int)], .int .i64 0]) ∧ IsSl 2 b ((tokens (doS s f t x).1).map tok) := by
  obtain ⟨a, b, ha, hsa, hsb⟩ := again_ok (s := s) f t hx
  rw [if_pos h] at hsa hsb
  have hs := (okS_zero (doS_ok h).1).1
  have c1 := fun {β : Type} (st : St) (K : Kv β) => callS_bare st K rfl rfl rfl ha
  have hl1 := (tokens_few _ s (Nat.le_refl _)).1
  have hl2 := (tokens_few _ (doS s f t x).1 (Nat.le_refl _)).1
  have hl3 := doS_len (s := s) (x := x) (f := f) (t := t)
  have b2 : ∀ {u v : AV}, VM.bare u = true → VM.bare v = true → bares [u, v] = true := fun h1 h2 => by simp only [bares_cons, h1, h2]; rfl
  have b1 : ∀ {u : AV}, VM.bare u = true → bares [u] = true := fun h1 => by simp only [bares_cons, h1]; rfl
  have c2 := fun {β : Type} (st : St) (K : Kv β) => callS_bare (f := 12) st K rfl (by simp only [List.map_cons, List.map_nil, hsa.strip, hsb.strip]) (b2 hsa.bare hsb.bare) (alike_ok hsa hsb)
  obtain ⟨n1, n2⟩ := alike_le (tokens s) (tokens (doS s f t x).1)
  obtain ⟨p, hp, ep⟩ := hsa.cut (lo := some ((alike (tokens s) (tokens (doS s f t x).1) : Nat) : Int)) (hi := none) (hiO_nat (by rw [List.length_map]; exact n1)) hiO_none
  obtain ⟨q, hq, eq⟩ := hsb.cut (lo := some ((alike (tokens s) (tokens (doS s f t x).1) : Nat) : Int)) (hi := none) (hiO_nat (by rw [List.length_map]; exact n2)) hiO_none
  rw [List.take_length, ← List.map_drop] at hp hq
  obtain ⟨p', hp', sp⟩ := turned_ok hp (by rw [List.length_drop]; omega)
  obtain ⟨q', hq', sq⟩ := turned_ok hq (by rw [List.length_drop]; omega)
  have c3 := fun {β : Type} (st : St) (K : Kv β) => callS_bare (f := 13) st K rfl (by simp only [List.map_cons, List.map_nil, hp.strip]) (b1 hp.bare) hp'
  have c4 := fun {β : Type} (st : St) (K : Kv β) => callS_bare (f := 13) st K rfl (by simp only [List.map_cons, List.map_nil, hq.strip]) (b1 hq.bare) hq'
  have c5 := fun {β : Type} (st : St) (K : Kv β) => callS_bare (f := 12) st K rfl (by simp only [List.map_cons, List.map_nil, sp.strip, sq.strip]) (b2 sp.bare sq.bare) (alike_ok sp sq)
  obtain ⟨st1, g1, _, _, fx, e1⟩ := var_put (O := orc vE) (st := St.mk 1 0 (Tr.node (some (VM.Obj.cells 32 [AV.int .i64 0, AV.int .i64 0])) Tr.leaf Tr.leaf)) (id := 0) (t := 32) (z := 2) (old := [.int .i64 0, .int .i64 0])
    (cs := [.int .i64 (headN (tokens s) (tokens (doS s f t x).1) : Int), .int .i64 (tailN (tokens s) (tokens (doS s f t x).1) : Int)]) (.agg [.int .i64 (headN (tokens s) (tokens (doS s f t x).1) : Int), .int .i64 (tailN (tokens s) (tokens (doS s f t x).1) : Int)]) rfl rfl rfl (Nat.le_refl _)
  unfold headN tailN at e1 g1
  have hf : ∀ (K : AV → Option AV), frzS st1 0 (.tup [b, .agg [.int .i64 (alike (tokens s) (tokens (doS s f t x).1) : Int), .int .i64 (alike ((tokens s).drop (alike (tokens s) (tokens (doS s f t x).1))).reverse ((tokens (doS s f t x).1).drop (alike (tokens s) (tokens (doS s f t x).1))).reverse : Int)], .int .i64 0]) K = K (.tup [b, _, .int .i64 0]) := fun K =>
    frz_tup (allE_cons (fz_sl hsb st1 0 99 (by omega)) (allE_cons rfl (allE_cons rfl allE_nil))) (by simp only [bares_cons, hsb.bare]; rfl) K
  refine ⟨b, bare_of rfl ((g7_eq _ _).trans ?_), hsb⟩
  unfold edV headN tailN
  unfold edV at c1
  rw [h] at c1
  have q00 : ((0 : Int) = 0) := rfl
  have ak : apart ⟨[], .kept⟩ q0 = true := rfl
  have ak2 : apart q0 ⟨[], .kept⟩ = true := rfl
  simp only [g7, asS_str, unA_agg, unc_cons, asI_int, un0_nil, c1, unT_tup, nthS_zero, nthS_one, nthS_two, nthS_three, ifB_bne, if_true, c2, ep, eq, c3, c4, c5, ak, ak2, Bool.and_self, chk_true, e1, loadS_mp g1, List.drop_zero, takeO2, bindO_ok, hf]
end Go.Proofs.YtcghfoagjphaoaaGreatDoor.Vm
/- The reference's Relex. -/
namespace Go.Proofs.YtcghfoagjphaoaaGreatDoor.Vm
open Go Go.VM Go.Proofs Go.Lex
theorem rturned_loop {x : AV} {es : List (Nat × List UInt8)} (hx : IsSl 2 x (es.map tok)) (hn : es.length ≤ 1000000) : ∀ (k : Nat) (st : St) (v : AV), k ≤ es.length → Own st 2 39 v ((es.drop k).reverse.map tok) →
    ∃ v' st', loopO (g15_L1 x) ([v, .int .i64 ((k : Int) - 1)], st) = some (0, [v'], st') ∧ Own st' 2 39 v' (es.reverse.map tok)
  | 0, st, v, _, ho => by
    refine ⟨v, st, loopO_inr ?_, by simpa using ho⟩
    simp only [g15_L1, unc_cons, asI_int, un0_nil, ifB_decide, if_neg (show ¬ ((0 : Nat) : Int) - 1 ≥ 0 by omega)]
  | k + 1, st, v, hk, ho => by
    obtain ⟨p, hp⟩ : ∃ p, es[k]? = some p := ⟨es[k], List.getElem?_eq_getElem (by omega)⟩
    have e1 : (((k + 1 : Nat) : Int) - 1) = (k : Int) := by omega
    obtain ⟨v1, st1, o1, k1, x1, a1⟩ := own_app (b := 24) (tok p) ho (room_of (by rw [List.length_map, List.length_reverse, List.length_drop]; omega) (by omega) (by omega))
    have a1 : ∀ {β : Type} (K : Kv β), appS 2 24 39 v [.agg [.int .u8 (p.1 : Int), .str p.2]] st K = K v1 st1 x1 := fun K => a1 K
    have hd : es.drop k = p :: es.drop (k + 1) := by
      have hlt : k < es.length := by omega
      rw [List.drop_eq_getElem_cons hlt]
      rw [List.getElem?_eq_getElem hlt] at hp
      cases hp; rfl
    obtain ⟨v2, st2, e2, o2⟩ := rturned_loop hx hn k st1 v1 (by omega) (by rw [hd, List.reverse_cons, List.map_append]; exact o1)
    refine ⟨v2, st2, ?_, o2⟩
    rw [loopO_inl (s' := ([v1, .int .i64 ((k : Int) - 1)], st1)), e2]
    rw [e1]
    simp only [g15_L1, unc_cons, asI_int, un0_nil, ifB_decide, if_pos (show (k : Int) ≥ 0 by omega), toks_idx hx hp, loadS_ip, takeO2, bindO_ok, unA_agg, asS_str, a1, letV_eq, wrap_i64 (show -9223372036854775808 ≤ (k : Int) - 1 by omega) (show (k : Int) - 1 ≤ 9223372036854775807 by omega)]
theorem rturned_ok {x : AV} {es : List (Nat × List UInt8)} (hx : IsSl 2 x (es.map tok)) (hn : es.length ≤ 1000000) : ∃ y, (orc vE).bare 15 [x] = some y ∧ IsSl 2 y (es.reverse.map tok) := by
  obtain ⟨v', st', e, o⟩ := rturned_loop hx hn es.length (St.mk 0 0 Tr.leaf) .nils (Nat.le_refl _) (by rw [List.drop_length]; exact Own.nils (Nat.le_refl _) _ _)
  obtain ⟨y, hy, hf⟩ := frz_own (β := AV) o
  refine ⟨y, bare_of rfl ((g15_eq _).trans ?_), hy⟩
  simp only [g15, hx.len, List.length_map, letV_eq, wrap_i64 (show -9223372036854775808 ≤ (es.length : Int) - 1 by omega) (show (es.length : Int) - 1 ≤ 9223372036854775807 by omega), e, bindO_ok, unc_cons, un0_nil, oneOf, hf]
theorem rrelex_fail {s x : List UInt8} (f t : Int) (hx : x.length ≤ 1000000) (h : (doS s f t x).2 ≠ 0) : (orc vE).bare 8 [.str s, edV f t x] = some (.tup [.nils, .int .i64 0, .int .i64 0, .int .i64 (doS s f t x).2]) := by
  refine bare_of rfl ((g8_eq _ _).trans ?_)
  have c1 := fun {β : Type} (st : St) (K : Kv β) => callS_bare st K rfl rfl rfl (rdo_ok (s := s) f t hx)
  unfold edV at c1 ⊢
  simp only [g8, asS_str, unA_agg, unc_cons, asI_int, un0_nil, c1, unT_tup, nthS_zero, nthS_one, ifB_bne, if_neg h]
theorem rrelex_ok {s x : List UInt8} (f t : Int) (hx : x.length ≤ 1000000) (h : (doS s f t x).2 = 0) : ∃ b, (orc vE).bare 8 [.str s, edV f t x] =
      some (.tup [b, .int .i64 (headN (tokens s) (tokens (doS s f t x).1) : Int), .int .i64 (tailN (tokens s) (tokens (doS s f t x).1) : Int), .int .i64 0]) ∧ IsSl 2 b ((tokens (doS s f t x).1).map tok) := by
  obtain ⟨h1, _, _, _, h5, h6⟩ := doS_ok h
  obtain ⟨a, ha, hsa⟩ := rtokens_any s
  obtain ⟨b, hb, hsb⟩ := rtokens_any (doS s f t x).1
  have h7 : okS (doS s f t x).1 = 0 := by rw [h6]; exact h5
  rw [if_pos h1] at hsa
  rw [if_pos h7] at hsb
  rw [h1] at ha
  rw [h7] at hb
  have hs := (okS_zero h1).1
  have hs2 := (okS_zero h7).1
  have hl1 := (tokens_few _ s (Nat.le_refl _)).1
  have hl2 := (tokens_few _ (doS s f t x).1 (Nat.le_refl _)).1
  have b2 : ∀ {u v : AV}, VM.bare u = true → VM.bare v = true → bares [u, v] = true := fun h1 h2 => by simp only [bares_cons, h1, h2]; rfl
  have b1 : ∀ {u : AV}, VM.bare u = true → bares [u] = true := fun h1 => by simp only [bares_cons, h1]; rfl
  have c0 := fun {β : Type} (st : St) (K : Kv β) => callS_bare st K rfl rfl rfl (rdo_ok (s := s) f t hx)
  have ca := fun {β : Type} (st : St) (K : Kv β) => callS_bare st K rfl rfl rfl ha
  have cb := fun {β : Type} (st : St) (K : Kv β) => callS_bare st K rfl rfl rfl hb
  have c2 := fun {β : Type} (st : St) (K : Kv β) => callS_bare (f := 14) st K rfl (by simp only [List.map_cons, List.map_nil, hsa.strip, hsb.strip]) (b2 hsa.bare hsb.bare) (ralike_ok hsa hsb)
  obtain ⟨n1, n2⟩ := alike_le (tokens s) (tokens (doS s f t x).1)
  obtain ⟨p, hp, ep⟩ := hsa.cut (lo := some ((alike (tokens s) (tokens (doS s f t x).1) : Nat) : Int)) (hi := none) (hiO_nat (by rw [List.length_map]; exact n1)) hiO_none
  obtain ⟨q, hq, eq⟩ := hsb.cut (lo := some ((alike (tokens s) (tokens (doS s f t x).1) : Nat) : Int)) (hi := none) (hiO_nat (by rw [List.length_map]; exact n2)) hiO_none
  rw [List.take_length, ← List.map_drop] at hp hq
  obtain ⟨p', hp', sp⟩ := rturned_ok hp (by rw [List.length_drop]; omega)
  obtain ⟨q', hq', sq⟩ := rturned_ok hq (by rw [List.length_drop]; omega)
  have c3 := fun {β : Type} (st : St) (K : Kv β) => callS_bare (f := 15) st K rfl (by simp only [List.map_cons, List.map_nil, hp.strip]) (b1 hp.bare) hp'
  have c4 := fun {β : Type} (st : St) (K : Kv β) => callS_bare (f := 15) st K rfl (by simp only [List.map_cons, List.map_nil, hq.strip]) (b1 hq.bare) hq'
  have c5 := fun {β : Type} (st : St) (K : Kv β) => callS_bare (f := 14) st K rfl (by simp only [List.map_cons, List.map_nil, sp.strip, sq.strip]) (b2 sp.bare sq.bare) (ralike_ok sp sq)
  have hf : ∀ (st : St) (u v : Int) (K : AV → Option AV), frzS st 0 (.tup [b, .int .i64 u, .int .i64 v, .int .i64 0]) K = K (.tup [b, .int .i64 u, .int .i64 v, .int .i64 0]) := fun st u v K =>
    frz_tup (allE_cons (fz_sl hsb st 0 99 (by omega)) (allE_cons rfl (allE_cons rfl (allE_cons rfl allE_nil)))) (by simp only [bares_cons, hsb.bare]; rfl) K
  refine ⟨b, bare_of rfl ((g8_eq _ _).trans ?_), hsb⟩
  unfold edV headN tailN
  unfold edV at c0
  rw [h] at c0
  have ak : apart ⟨[], .kept⟩ q0 = true := rfl
  have ak2 : apart q0 ⟨[], .kept⟩ = true := rfl
  simp only [g8, asS_str, unA_agg, unc_cons, asI_int, un0_nil, c0, ca, cb, unT_tup, nthS_zero, nthS_one, ifB_bne, if_true, c2, ep, eq, c3, c4, c5, ak, ak2, Bool.and_self, chk_true, hf]
end Go.Proofs.YtcghfoagjphaoaaGreatDoor.Vm
/- The examples run. -/
namespace Go.Proofs.YtcghfoagjphaoaaGreatDoor.Vm
open Go Go.VM Go.Proofs
theorem awake_run : (caller vE 3000).bare 4 [] = .ok (.bool true) := by kernel_rfl
end Go.Proofs.YtcghfoagjphaoaaGreatDoor.Vm
