/-
  A part of the proof.
-/
import Derived.Test.YtlfilkniobkbiaaDoorVmBJ
set_option maxRecDepth 1000000
set_option linter.unusedSimpArgs false
/- The law TyAlike: its loops. -/
namespace Go.Proofs.YtlfilkniobkbiaaDoor.Vm
open Go Go.VM Go.Proofs Go.Ty
/-- Full, and its answer kept in a variable. -/
theorem Goes.fullv {β : Type} {Q : β → Prop} {st : St} {T M : Nat} {U : List Tx} {B : Bnd} {k0 : Int} (w : TbR st T M B k0) (hb : TbG U B) (hro : st.ro ≤ st.h) {x : Ty} {vx : AV} (hv : CT x vx) {K : Int → St → St → Option β}
    (g : ∀ sA s v, CTo (fullO B x).1 v → s.get sA.h = .ok (.cells TTy [.str (fullO B x).1.nm, v]) → st.h ≤ sA.h → Keeps st s (fun _ => False) → s.ro ≤ s.h → Goes (K (fullO B x).2 sA s) Q) :
    Goes (callS (orc vE) 16 [.mp T 0, .agg [.str x.nm, vx]] st fun v44 st45 _ => unT v44 fun l47 => nthS l47 0 fun v48 => unA v48 fun l50 => unc l50 fun v51 l52 => asS v51 fun l53 => unc l52 fun v54 l55 => un0 l55 (unT v44 fun l56 => nthS l56 1 fun v57 => asI .i64 v57 fun n58 => letSt (St.add st45 (VM.Obj.cells TTy [.str [], .nils])) fun st59 => asOne v54 (storeS (orc vE) 2 (.mp (St.h st45) 0) (.agg [.str l53, v54]) [.str l53, v54] st59 fun _ st61 _ => K n58 st45 st61))) Q := by
  refine Goes.callW (Full_ok w hb hro hv) rfl (by simp [bares_cons, bares, VM.bare.bareAll, VM.bare, VM.strip]) ?_
  rintro r s1 ⟨v, rfl, hc, k1⟩
  have hro1 : s1.ro ≤ s1.h := by rw [k1.ro]; exact Nat.le_trans hro k1.h
  simp only [unT_tup, nthS_zero, nthS_one, unA_agg, unc_cons, asS_str, un0_nil, asI_int, hc.asOne]
  refine Goes.xalloc (Wx.start hro1 (fun _ => False)) fun s2 e2 w2 k2 => Goes.xst [] w2 fun s3 e3 w3 k3 => ?_
  exact g s1 s3 v hc (w3.w.get List.mem_cons_self) k1.h (k1.trans w3.k) w3.w.ro
theorem done_set {dn : Nat} {st : St} {ds : List Bool} (h : st.get dn = .ok (.cells TBl (ds.map .bool))) (hro : st.ro ≤ dn) {i : Nat} (hi : i < ds.length) (b : Bool) {β : Type} (K : Kv β) :
    storeS (orc vE) 1 (.mp dn i) (.bool b) [.bool b] st K = K VM.undef (st.put dn (.cells TBl ((ds.set i b).map .bool))) ⟨[dn], .wrote dn (.cells TBl ((ds.set i b).map .bool))⟩ := by
  rw [storeS_at (cs := [.bool b]) (z := 1) h rfl (by simp; omega) hro]
  have : splice (ds.map AV.bool) i [.bool b] = (ds.set i b).map .bool := by
    unfold splice
    rw [List.map_set]
    simp only [List.length_singleton]
    rw [List.set_eq_take_append_cons_drop, if_pos (by simpa using hi)]
    simp
  rw [this]
theorem ms_idx {dn n i : Nat} (hi : i < n) (st : St) {β : Type} (K : AV → List Nat → Option β) : idxA 1 (.ms dn 0 1 n n) (i : Int) st K = K (.mp dn i) [] := by
  have := idx_ms (z := 1) (id := dn) (n := n) (c := n) hi st K
  rw [Nat.mul_one] at this; exact this
theorem law_loop1 {x : AV} {l : List Ty} {es : List AV} (hx : IsSl 2 x es) (hl : IsTs l es) (h8 : l.length ≤ 8) {U : List Tx} (hU : U.length ≤ 1000000000) (hin : ∀ t ∈ l, mayT t = true → InU U t) {T M dn : Nat} :
    ∀ (n : Nat) (c : Car), (∃ (i : Nat) (s : St) (B : Bnd) (ds : List Bool), n = l.length - i ∧ c = ([.bool false, .int .i64 (i : Int)], s) ∧ i ≤ l.length + 1 ∧ ds.length = l.length ∧ LawW s T M dn U B ds ∧ DoneI l B ds) →
      Goes (loopO (g4_L1 x (.mp T 0) (.ms dn 0 1 l.length l.length)) c) (fun c => ∃ s B ds, c = (0, [.bool false], s) ∧ ds.length = l.length ∧ LawW s T M dn U B ds ∧ DoneI l B ds) := by
  have hlen := hl.len
  refine Goes.loop ?_
  rintro n c ⟨i, s, B, ds, rfl, rfl, hi, hds, w, hd⟩
  simp only [g4_L1, unc_cons, asI_int, asB_bool, un0_nil, letV_eq, wrapA1 (show i + 1 ≤ 9223372036854775807 by omega), hx.len]
  by_cases hlt : i + 1 < l.length
  · rw [decide_eq_true (show (((i + 1 : Nat)) : Int) < (es.length : Int) by omega)]
    obtain ⟨v1, hv1, hV1⟩ := ts_at hl (show i < l.length by omega)
    obtain ⟨v2, hv2, hV2⟩ := ts_at hl hlt
    obtain ⟨x1, rfl, hx1⟩ := isT_iff.1 hV1
    obtain ⟨x2, rfl, hx2⟩ := isT_iff.1 hV2
    have m1 : l[i]'(show i < l.length by omega) ∈ l := List.getElem_mem _
    have m2 : l[i + 1] ∈ l := List.getElem_mem _
    have g1 : l[i]? = some (l[i]'(show i < l.length by omega)) := List.getElem?_eq_getElem _
    have g2 : l[i + 1]? = some l[i + 1] := List.getElem?_eq_getElem _
    generalize l[i]'(show i < l.length by omega) = a at *
    generalize l[i + 1] = b at *
    simp only [ifB_true, hx.idx hv1, cells_agg, loadS_ip, List.drop_zero, takeT2, bindO_ok, unA_agg, unc_cons, asS_str, un0_nil]
    refine Goes.fullv w.tb.toTbR w.g w.ro hx1 fun sA s3 v hc hg3 hA k3 hro3 => ?_
    have w3 := w.keep0 k3
    simp only [hx.idx hv1, hx.idx hv2, cells_agg, loadS_ip, List.drop_zero, takeT2, bindO_ok, unA_agg, unc_cons, asS_str, un0_nil]
    refine Goes.callW (Alike_ok w3.tb w3.g hU w3.ro (fun h => hin _ m1 h) (fun h => hin _ m2 h) hx1 hx2) rfl (by simp [bares_cons, bares, VM.bare.bareAll, VM.bare, VM.strip]) ?_
    rintro v s4 ⟨e, B', hal, rfl, tb4, g4, ⟨E, hE⟩, k4⟩
    obtain ⟨ms0, hM0, _⟩ := w3.tb.m
    have kc : ∀ {j : Nat} {t : TypeId} {cs : List AV}, s3.get j = .ok (.cells t cs) → s4.get j = .ok (.cells t cs) := fun {j t cs} hg => k4.old _ _ (fun e => by
      rcases e with e | ⟨_, _, _, _, e⟩
      · rw [e, hM0] at hg; cases hg
      · rw [hg] at e; cases e) hg
    have d4 := kc w3.d
    have rd4 : s4.ro ≤ dn := by rw [k4.ro]; exact w3.rd
    have ro4 : s4.ro ≤ s4.h := by rw [k4.ro]; exact Nat.le_trans w3.ro k4.h
    simp only [asI_int, ms_idx (show i < l.length by omega), done_set d4 rd4 (show i < ds.length by omega)]
    have k5 : Keeps s4 (s4.put dn (.cells TBl ((ds.set i (e == 0)).map .bool))) (· = dn) := Keeps.put rfl
    have hTd : T ≠ dn := get_cells_ne tb4.t d4 (by decide)
    have hMd : M ≠ dn := fun e => by
      obtain ⟨ms, h1, _⟩ := tb4.m
      rw [e, d4] at h1; cases h1
    have hAd : sA.h ≠ dn := get_cells_ne (kc hg3) d4 (by decide)
    have w5 : LawW (s4.put dn (.cells TBl ((ds.set i (e == 0)).map .bool))) T M dn U B' (ds.set i (e == 0)) :=
      ⟨tb4.keep k5 hTd hMd, g4, St.get_put_same (St.get_ok.1 d4).1, rd4, ro4⟩
    have hg5 := k5.old _ _ hAd (kc hg3)
    generalize s4.put dn (.cells TBl ((ds.set i (e == 0)).map .bool)) = s5 at *
    try simp only [hx.idx hv1, cells_agg, loadS_ip, List.drop_zero, takeT2, bindO_ok, unA_agg, unc_cons, asS_str, un0_nil]
    refine Goes.fullv w5.tb.toTbR w5.g w5.ro hx1 fun sB s8 v' hc' hg8 hB' k8 hro8 => ?_
    have w8 := w5.keep0 k8
    have hg8' := k8.old _ _ (fun f => f) hg5
    have hdone : DoneI l B' (ds.set i (e == 0)) := by
      intro j hj
      by_cases hji : j = i
      · subst hji
        rw [List.getElem?_set_self (by omega)] at hj
        simp only [Option.some.injEq, beq_iff_eq] at hj
        subst hj
        obtain ⟨q1, q2, q3⟩ := alkO_zero w3.g hal
        exact ⟨_, _, g1, g2, q1, q2, q3⟩
      · rw [List.getElem?_set_ne (fun e => hji e.symm)] at hj
        obtain ⟨a', b', q1, q2, q3, q4, q5⟩ := hd j hj
        refine ⟨a', b', q1, q2, q3, q4, ?_⟩
        subst hE
        rw [← fl_more w3.g.good g4.good a', ← fl_more w3.g.good g4.good b', q5]
    refine Goes.bind (R := fun c => c = ([.bool false], s8)) ?_ ?_
    · simp only [ifB_bne]
      by_cases he : e = 0
      · rw [if_pos he]; exact Goes.some rfl
      · rw [if_neg he]
        have hBB := alkO_err hal he
        subst hBB
        rw [if_pos rfl]
        obtain ⟨fx, hs⟩ := call_same hc hc' s8
        simp only [loadS_mp hg8', loadS_mp hg8, List.drop_zero, takeT2, bindO_ok, unA_agg, unc_cons, asS_str, un0_nil]
        refine Goes.step (hs _) ?_
        simp only [asB_bool, (sameT_iff _ _).2 rfl, Bool.not_true]
        exact Goes.some rfl
    · rintro c rfl
      simp only [unc_cons, asB_bool, un0_nil, ifB_false]
      rw [wrap_i64 (by omega) (by omega)]
      refine Goes.some ⟨l.length - (i + 2), by omega, i + 2, s8, B', _, rfl, ?_, by omega, by rw [List.length_set]; exact hds, w8, hdone⟩
      rw [show ((i : Int) + 2) = ((i + 2 : Nat) : Int) by omega]
  · rw [decide_eq_false (show ¬ (((i + 1 : Nat)) : Int) < (es.length : Int) by omega)]
    simp only [ifB_false]
    exact Goes.some ⟨s, B, ds, rfl, hds, w, hd⟩
theorem law_loop2 {x : AV} {l : List Ty} {es : List AV} (hx : IsSl 2 x es) (hl : IsTs l es) (h8 : l.length ≤ 8) {U : List Tx} {T M dn : Nat} {B : Bnd} {ds : List Bool} (hds : ds.length = l.length) (hd : DoneI l B ds) :
    ∀ (n : Nat) (c : Car), (∃ (i : Nat) (s : St), n = l.length - i ∧ c = ([.bool false, .int .i64 (i : Int)], s) ∧ i ≤ l.length + 1 ∧ LawW s T M dn U B ds) →
      Goes (loopO (g4_L2 x (.mp T 0) (.ms dn 0 1 l.length l.length)) c) (fun c => ∃ s, c = (0, [.bool false], s)) := by
  have hlen := hl.len
  refine Goes.loop ?_
  rintro n c ⟨i, s, rfl, rfl, hi, w⟩
  simp only [g4_L2, unc_cons, asI_int, asB_bool, un0_nil, letV_eq, wrapA1 (show i + 1 ≤ 9223372036854775807 by omega), hx.len]
  by_cases hlt : i + 1 < l.length
  · rw [decide_eq_true (show (((i + 1 : Nat)) : Int) < (es.length : Int) by omega)]
    obtain ⟨v1, hv1, hV1⟩ := ts_at hl (show i < l.length by omega)
    obtain ⟨v2, hv2, hV2⟩ := ts_at hl hlt
    obtain ⟨x1, rfl, hx1⟩ := isT_iff.1 hV1
    obtain ⟨x2, rfl, hx2⟩ := isT_iff.1 hV2
    have g1 : l[i]? = some (l[i]'(show i < l.length by omega)) := List.getElem?_eq_getElem _
    have g2 : l[i + 1]? = some l[i + 1] := List.getElem?_eq_getElem _
    generalize l[i]'(show i < l.length by omega) = a at *
    generalize l[i + 1] = b at *
    simp only [ifB_true, hx.idx hv1, cells_agg, loadS_ip, List.drop_zero, takeT2, bindO_ok, unA_agg, unc_cons, asS_str, un0_nil]
    refine Goes.fullv w.tb.toTbR w.g w.ro hx1 fun sA s3 v hc hg3 hA k3 hro3 => ?_
    have w3 := w.keep0 k3
    simp only [hx.idx hv2, cells_agg, loadS_ip, List.drop_zero, takeT2, bindO_ok, unA_agg, unc_cons, asS_str, un0_nil]
    refine Goes.fullv w3.tb.toTbR w3.g w3.ro hx2 fun sB s6 v' hc' hg6 hB' k6 hro6 => ?_
    have w6 := w3.keep0 k6
    have hg6' := k6.old _ _ (fun f => f) hg3
    refine Goes.bind (R := fun c => c = ([.bool false], s6)) ?_ ?_
    · obtain ⟨d, hdi⟩ : ∃ d, ds[i]? = some d := ⟨_, List.getElem?_eq_getElem (show i < ds.length by omega)⟩
      have hdrop : (ds.map AV.bool).drop i = .bool d :: (ds.map AV.bool).drop (i + 1) := by
        rw [List.drop_eq_getElem_cons (by simpa using (show i < ds.length by omega))]
        congr 1
        rw [List.getElem_map]
        congr 1
        have := List.getElem?_eq_getElem (show i < ds.length by omega)
        rw [this] at hdi
        simpa using hdi
      simp only [ms_idx (show i < l.length by omega), loadS_mp w6.d, hdrop, takeO_one, bindO_ok, asB_bool]
      cases d with
      | false => simp only [ifB_false]; exact Goes.some rfl
      | true =>
        obtain ⟨a', b', q1, q2, q3, q4, q5⟩ := hd i hdi
        rw [g1] at q1
        rw [g2] at q2
        cases q1
        cases q2
        have hff : fullO B a = fullO B b := by
          unfold fullO
          rw [if_pos q3, if_pos q4, q5]
        rw [hff] at hc hg6' ⊢
        obtain ⟨fx, hs⟩ := call_same hc hc' s6
        simp only [ifB_true, ifB_bne, if_true, loadS_mp hg6', loadS_mp hg6, List.drop_zero, takeT2, bindO_ok, unA_agg, unc_cons, asS_str, un0_nil]
        refine Goes.step (hs _) ?_
        simp only [asB_bool, (sameT_iff _ _).2 rfl, Bool.not_true]
        exact Goes.some rfl
    · rintro c rfl
      simp only [unc_cons, asB_bool, un0_nil, ifB_false]
      rw [wrap_i64 (by omega) (by omega)]
      refine Goes.some ⟨l.length - (i + 2), by omega, i + 2, s6, rfl, ?_, by omega, w6⟩
      rw [show ((i : Int) + 2) = ((i + 2 : Nat) : Int) by omega]
  · rw [decide_eq_false (show ¬ (((i + 1 : Nat)) : Int) < (es.length : Int) by omega)]
    simp only [ifB_false]
    exact Goes.some ⟨s, rfl⟩
theorem mk_done {st : St} {k : Nat} (h1 : 1 ≤ k) (h8 : k ≤ 8) {β : Type} (K : Kv β) : planS (orc vE) (makeSliceP (Env.T vE) 32 (.int .i64 (k : Int)) (.int .i64 (k : Int))) st K = K (.ms st.h 0 1 k k) (st.add (.cells TBl ((List.replicate k false).map .bool))) ⟨[], .made st.h (.cells TBl ((List.replicate k false).map .bool))⟩ := by
  have e1 : ti (Env.T vE) 32 = .ok ⟨.slice TBl, 1, 24, [.nils], false, false⟩ := by kernel_rfl
  have : ∀ k : Nat, 1 ≤ k → k ≤ 8 → makeSliceP (Env.T vE) 32 (.int .i64 (k : Int)) (.int .i64 (k : Int)) = .ok (.new (.cells TBl ((List.replicate k false).map .bool)) fun j => .ms j 0 1 k k) := by
    intro k h1 h8
    have hk : k = 1 ∨ k = 2 ∨ k = 3 ∨ k = 4 ∨ k = 5 ∨ k = 6 ∨ k = 7 ∨ k = 8 := by omega
    rcases hk with rfl | rfl | rfl | rfl | rfl | rfl | rfl | rfl <;> (unfold makeSliceP; simp only [e1, ti_bool, ok_bind]; rfl)
  rw [this k h1 h8]
  rfl
theorem law_alike {x : AV} {l : List Ty} {es : List AV} (hx : IsSl 2 x es) (hl : IsTs l es) : (orc vE).bare 4 [x] = some (.bool true) := by
  have hlen := hl.len
  obtain ⟨fb, hfew⟩ := few_ok hx hl
  have caw := fun {γ : Type} (st : St) (K : Kv γ) => callS_bare (f := 9) st K rfl rfl rfl (orc_bare awake_run)
  have cfe := fun {γ : Type} (st : St) (K : Kv γ) => callS_bare (f := 14) st K rfl (by rw [List.map_cons, List.map_nil, hx.strip]) (by rw [bares_cons, hx.bare]; rfl) hfew
  refine Goes.eq (Goes.bare rfl (Goes.step (g4_eq _) ?_))
  simp only [g4, hx.len]
  refine Goes.bind (R := fun c => (∃ s, c = ([.bool true], s)) ∨ (c = ([.bool false], S0) ∧ l.length ≤ 8)) ?_ ?_
  · by_cases h8 : l.length ≤ 8
    · rw [decide_eq_false (show ¬ (es.length : Int) > 8 by omega)]
      simp only [ifB_false, cfe, asB_bool]
      cases fb with
      | false => simp only [Bool.not_false, ifB_true]; exact Goes.some (.inl ⟨_, rfl⟩)
      | true => simp only [Bool.not_true, ifB_false, caw, asB_bool]; exact Goes.some (.inr ⟨rfl, h8⟩)
    · rw [decide_eq_true (show (es.length : Int) > 8 by omega)]
      simp only [ifB_true]
      exact Goes.some (.inl ⟨_, rfl⟩)
  rintro c (⟨s, rfl⟩ | ⟨rfl, h8⟩)
  · simp only [unc_cons, asB_bool, un0_nil, ifB_true, caw]
    exact Goes.some rfl
  · simp only [unc_cons, asB_bool, un0_nil, ifB_false]
    refine Goes.callW (new_ok (st := S0) (Nat.le_refl _)) rfl rfl ?_
    rintro v s1 ⟨T, M, rfl, tb, k1, ro1, -, -⟩
    by_cases h2 : 1 ≤ l.length
    · rw [hlen]
      have hmk := fun {β : Type} (K : Kv β) => mk_done (st := s1) h2 h8 K
      refine Goes.step (hmk _) ?_
      have k2 : Keeps s1 (s1.add (.cells TBl ((List.replicate l.length false).map .bool))) (fun _ => False) := Keeps.add _ _ _
      have w2 : LawW (s1.add (.cells TBl ((List.replicate l.length false).map .bool))) T M s1.h (univL l) [] (List.replicate l.length false) :=
        ⟨tb.keep k2 (fun f => f) (fun f => f), ⟨.nil, fun _ _ h => by simp [fnd] at h, fun _ h => by cases h⟩, St.get_add_new, ro1, Nat.le_succ_of_le ro1⟩
      have hU : (univL l).length ≤ 1000000000 := by have := univL_len l; omega
      refine Goes.bind (law_loop1 hx hl h8 hU (fun t ht hm => univL_in ht hm) (l.length - 0) _ ⟨0, _, [], _, rfl, rfl, Nat.zero_le _, by simp, w2, fun j hj => ?_⟩) ?_
      · have : (List.replicate l.length false)[j]? ≠ some true := by
          intro e
          have := List.mem_of_getElem? e
          simp at this
        exact absurd hj this
      · rintro c ⟨s, B, ds, rfl, hds, w, hd⟩
        simp only [unc_cons, asB_bool, un0_nil, sel2_zero]
        refine Goes.bind (law_loop2 hx hl h8 hds hd (l.length - 0) _ ⟨0, s, rfl, rfl, Nat.zero_le _, w⟩) ?_
        rintro c ⟨s', rfl⟩
        simp only [unc_cons, asB_bool, un0_nil, sel2_zero]
        exact Goes.some rfl
    · have h0 : l.length = 0 := by omega
      have he0 : es.length = 0 := by omega
      rw [he0]
      have e1 : ti (Env.T vE) 32 = .ok ⟨.slice TBl, 1, 24, [.nils], false, false⟩ := by kernel_rfl
      have hmk : ∀ {β : Type} (K : Kv β), planS (orc vE) (makeSliceP (Env.T vE) 32 (.int .i64 ((0 : Nat) : Int)) (.int .i64 ((0 : Nat) : Int))) s1 K = K (.sl 1 [] (.own s1.h)) (s1.add (.tok 0 TBl)) ⟨[], .made s1.h (.tok 0 TBl)⟩ := fun K => by
        have : makeSliceP (Env.T vE) 32 (.int .i64 ((0 : Nat) : Int)) (.int .i64 ((0 : Nat) : Int)) = .ok (.new (.tok 0 TBl) fun j => .sl 1 [] (.own j)) := by
          unfold makeSliceP; simp only [e1, ti_bool, ok_bind]; rfl
        rw [this]; rfl
      refine Goes.step (hmk _) ?_
      refine Goes.bind (R := fun c => ∃ s, c = (0, [.bool false], s)) (Goes.loop (I := fun _ c => ∃ s, c = ([.bool false, .int .i64 0], s)) (fun n c hc => ?_) 0 _ ⟨_, rfl⟩) ?_
      · obtain ⟨s, rfl⟩ := hc
        simp only [g4_L1, unc_cons, asI_int, asB_bool, un0_nil, letV_eq, hx.len, he0, show decide (IntKind.wrap .i64 (0 + 1) < ((0 : Nat) : Int)) = false from rfl, ifB_false]
        exact Goes.some ⟨s, rfl⟩
      · rintro c ⟨s, rfl⟩
        simp only [unc_cons, asB_bool, un0_nil, sel2_zero]
        refine Goes.bind (R := fun c => ∃ s, c = (0, [.bool false], s)) (Goes.loop (I := fun _ c => ∃ s, c = ([.bool false, .int .i64 0], s)) (fun n c hc => ?_) 0 _ ⟨_, rfl⟩) ?_
        · obtain ⟨s, rfl⟩ := hc
          simp only [g4_L2, unc_cons, asI_int, asB_bool, un0_nil, letV_eq, hx.len, he0, show decide (IntKind.wrap .i64 (0 + 1) < ((0 : Nat) : Int)) = false from rfl, ifB_false]
          exact Goes.some ⟨s, rfl⟩
        · rintro c ⟨s', rfl⟩
          simp only [unc_cons, asB_bool, un0_nil, sel2_zero]
          exact Goes.some rfl
end Go.Proofs.YtlfilkniobkbiaaDoor.Vm
