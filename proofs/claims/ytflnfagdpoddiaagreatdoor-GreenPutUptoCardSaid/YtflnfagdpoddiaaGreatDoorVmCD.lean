/-
  (A part of the proof: GreenPut, GreenArg.)
-/
import Derived.Test.YtflnfagdpoddiaaGreatDoorVmCC
import Derived.Test.YtflnfagdpoddiaaGreatDoorVmCB
import Derived.Test.YtflnfagdpoddiaaGreatDoorVmBI
set_option maxRecDepth 100000
set_option linter.unusedSimpArgs false
set_option maxHeartbeats 4000000
namespace Go.Proofs.YtflnfagdpoddiaaGreatDoor.Vm
open Go Go.VM Go.Proofs Go.Lex Go.Parse Go.Green

theorem lvN2 (st : St) (k tk : Int) (tx : List UInt8) (x : AV) (h : st.ro ≤ st.h) : ∃ st' o, st'.get st.h = .ok (.cells ND [.int .u8 k, .int .u8 tk, .str tx, x]) ∧ Keeps st st' (fun _ => False) ∧ st'.h = st.h + 1 ∧ ∀ {β : Type} (K : Kv β), storeS (orc vE) 4 (AV.mp st.h 0) (.agg [.int .u8 k, .int .u8 tk, .str tx, x]) [.int .u8 k, .int .u8 tk, .str tx, x] (st.add (.cells ND [.int .u8 0, .int .u8 0, .str [], .nils])) K = K VM.undef st' ⟨[st.h], .wrote st.h o⟩ := by
  obtain ⟨st', g, k1, n, e⟩ := local_var2 (O := orc vE) (st := st) (t := ND) (z := 4) (old := [.int .u8 0, .int .u8 0, .str [], .nils]) (cs := [.int .u8 k, .int .u8 tk, .str tx, x]) (.agg [.int .u8 k, .int .u8 tk, .str tx, x]) rfl rfl h
  exact ⟨st', _, g, k1, n, fun K => e K⟩
theorem apart_mk0 {i : Nat} {o : VM.Obj} : apart q0 ⟨[], .made i o⟩ = true := rfl
theorem apart_mk {a i : Nat} {o : VM.Obj} (h : a ≠ i) : apart ⟨[a], .kept⟩ ⟨[], .made i o⟩ = true := by
  show (![a].contains i) = true
  simp [h.symm]
theorem apart_k0 {i : Nat} {o : VM.Obj} : apart ⟨[], .kept⟩ ⟨[i], .wrote i o⟩ = true := rfl
theorem put_loop {t : T} {k tk : Nat} {tx : List UInt8} {y : AV} (hsm : Small t) (hc : cntT t ≤ 800000) (hN : IsN t (.agg [.int .u8 (k : Int), .int .u8 (tk : Int), .str tx, y])) {p : List Int} {x : AV} (hx : IsSl 1 x (p.map (AV.int .i64))) {u : T} {n : Nat} (ha : atG p t = some (u, n)) {s0 : St} : ∀ (r j : Nat) (b : Bool) (st : St), j + r = p.length → st.get s0.h = .ok (.cells ND [.int .u8 (k : Int), .int .u8 (tk : Int), .str tx, y]) → st.ro = 0 →
    ∃ i b' st', loopO (g7_L1 x s0) ([.bool b, .int .i64 (j : Int)], st) = some (i, [.bool b'], st') ∧ Keeps st st' (fun _ => False) ∧ ((i = 0 ∧ ∀ m, j ≤ m → m < p.length → ∀ x c, atG (p.take m) t = some (x, c) → x.kind ≠ 2) ∨ (i = 1 ∧ b' = true))
  | 0, j, b, st, hj, hg, hro => by
    have q : ¬ (j : Int) < (p.length : Int) := by omega
    refine ⟨0, b, st, loopO_inr ?_, Keeps.refl _ _, .inl ⟨rfl, fun m h1 h2 => by omega⟩⟩
    simp only [g7_L1, unc_cons, asB_bool, asI_int, un0_nil, plen hx, ifB_decide, if_neg q]
  | r + 1, j, b, st, hj, hg, hro => by
    have q : (j : Int) < (p.length : Int) := by omega
    have hpl : p.length ≤ 9223372036854775807 := by have := hx.1; rwa [List.length_map] at this
    obtain ⟨x', hx', ex'⟩ := hx.cut (lo := none) (hi := some (j : Int)) (l := 0) (m := j) hiO_none (hiO_nat (by rw [List.length_map]; omega))
    rw [List.drop_zero, ← List.map_take] at hx'
    obtain ⟨z, c, hz⟩ := at_take j ha
    have hR : atR (p.take j) t = (z, c, true) := by simp only [atR, hz]
    obtain ⟨w, ew, hw⟩ := At_ok hsm hc hN hx'
    rw [hR] at ew hw
    have ca := fun {β : Type} (st : St) (K : Kv β) => callTx (F := 20) hN hx' rfl ew st K
    obtain ⟨k1, tk1, tx1, l1, y1, es1, i1, rfl, hy1, hs1⟩ := isN_open hw
    have i1 : z = _ := i1
    obtain ⟨s1, o1, g1, ka, n1, e1⟩ := lvN2 st (k1 : Int) (tk1 : Int) tx1 y1 (by rw [hro]; omega)
    have hlt := (St.get_ok.1 hg).1
    have g01 := ka.old _ _ (fun f => f) hg
    have ld : ∀ {β : Type} (K : AV → List Nat → Option β), loadS 1 false (.mp st.h 0) s1 K = K (.int .u8 (k1 : Int)) [st.h] := fun K => by rw [loadS_mp g1]; rfl
    have h2 : ((k1 : Int) == 2) = (k1 == 2) := nat_beq k1 2
    have step : g7_L1 x s0 ([.bool b, .int .i64 (j : Int)], st) = ifB (k1 == 2) (some (.inr (1, [.bool true], s1))) (some (.inl ([.bool b, .int .i64 ((j + 1 : Nat) : Int)], s1))) := by
      simp only [g7_L1, unc_cons, asB_bool, asI_int, un0_nil, plen hx, ifB_decide, if_pos q, loadS_mp hg, List.drop_zero, takeO4, bindO_ok, unA_agg, asS_str, ex', ca, unT_tup, nthS_zero, nthS_one, letSt_eq, apart_mk0, apart_mk (Nat.ne_of_lt hlt), Bool.and_self, chk_true, hy1.asOne, e1, apart_k0, errG, if_true, show ((0 : Int) != 0) = false from rfl, ifB_false, ld, h2, letV_eq, wrapA1 (show j + 1 ≤ 9223372036854775807 by omega), show ((0 : Int) == 0) = true from rfl]
    cases hk : k1 == 2 with
    | true =>
      rw [hk] at step
      exact ⟨1, true, s1, loopO_inr step, ka, .inr ⟨rfl, rfl⟩⟩
    | false =>
      rw [hk] at step
      obtain ⟨i, b', st', e', k', h'⟩ := put_loop hsm hc hN hx ha r (j + 1) b s1 (by omega) g01 (by rw [ka.ro]; exact hro)
      refine ⟨i, b', st', by rw [loopO_inl step, e'], ka.trans k', ?_⟩
      rcases h' with ⟨rfl, h'⟩ | h'
      · refine .inl ⟨rfl, fun m h1 h2 x' c' hx' => ?_⟩
        rcases Nat.eq_or_lt_of_le h1 with rfl | h1
        · rw [hz] at hx'
          simp only [Option.some.injEq, Prod.mk.injEq] at hx'
          rw [← hx'.1, i1]
          exact beq_eq_false_iff_ne.1 hk
        · exact h' m h1 h2 x' c' hx'
      · exact .inr h'
theorem law_put {t m : T} (hc : cntT t ≤ 900000) (hcm : cntT m ≤ 900000) {v w : AV} (hv : IsN t v) (hw : IsN m w) {p : List Int} {x : AV} (hx : IsSl 1 x (p.map (AV.int .i64))) : (orc vE).bare 7 [v, w, x] = some (.bool true) := by
  have cw1 := fun {β : Type} (st : St) (K : Kv β) => callT hv rfl (weight_ok t hc v hv) st K
  have cw2 := fun {β : Type} (st : St) (K : Kv β) => callT hw rfl (weight_ok m hcm w hw) st K
  obtain ⟨v1, e1, hv1⟩ := given_ok t hc v hv
  obtain ⟨w1, e2, hw1⟩ := given_ok m hcm w hw
  have cg1 := fun {β : Type} (st : St) (K : Kv β) => callT hv rfl e1 st K
  have cg2 := fun {β : Type} (st : St) (K : Kv β) => callT hw rfl e2 st K
  have hgo : bareS vE 7 [v, w, x] = some (.bool true) := by
    refine (g7_eq _ _ _).trans ?_
    by_cases h1 : 300 ≤ wt t
    · obtain ⟨k, tk, tx, l, y, es, rfl, rfl, hy, hs⟩ := isN_open hv
      obtain ⟨k', tk', tx', l', y', es', rfl, rfl, hy', hs'⟩ := isN_open hw
      have q : ((wt (.mk k tk tx l) : Nat) : Int) ≥ 300 := by omega
      simp only [g7, unA_agg, unc_cons, asI_int, asS_str, asB_bool, un0_nil, hy.asOne, hy.fit1, hy'.asOne, hy'.fit1, call_works, Bool.not_true, ifB_false, cw1, decide_eq_true q, bindO_ok, ifB_true]
    by_cases h2 : 300 ≤ wt m
    · obtain ⟨k, tk, tx, l, y, es, rfl, rfl, hy, hs⟩ := isN_open hv
      obtain ⟨k', tk', tx', l', y', es', rfl, rfl, hy', hs'⟩ := isN_open hw
      have q : ¬ ((wt (.mk k tk tx l) : Nat) : Int) ≥ 300 := by omega
      have q' : ((wt (.mk k' tk' tx' l') : Nat) : Int) ≥ 300 := by omega
      simp only [g7, unA_agg, unc_cons, asI_int, asS_str, asB_bool, un0_nil, hy.asOne, hy.fit1, hy'.asOne, hy'.fit1, call_works, Bool.not_true, ifB_false, cw1, cw2, decide_eq_false q, decide_eq_true q', bindO_ok, ifB_true]
    have q1 : ¬ ((wt t : Nat) : Int) ≥ 300 := by omega
    have q2 : ¬ ((wt m : Nat) : Int) ≥ 300 := by omega
    by_cases h3 : 300 < p.length
    · obtain ⟨k, tk, tx, l, y, es, rfl, rfl, hy, hs⟩ := isN_open hv
      obtain ⟨k', tk', tx', l', y', es', rfl, rfl, hy', hs'⟩ := isN_open hw
      have q3 : ((p.length : Nat) : Int) > 300 := by omega
      simp only [g7, unA_agg, unc_cons, asI_int, asS_str, asB_bool, un0_nil, hy.asOne, hy.fit1, hy'.asOne, hy'.fit1, call_works, Bool.not_true, ifB_false, cw1, cw2, decide_eq_false q1, decide_eq_false q2, plen hx, decide_eq_true q3, bindO_ok, ifB_true]
    have q3 : ¬ ((p.length : Nat) : Int) > 300 := by omega
    have wb1 := wt_bound t (by omega)
    have wb2 := wt_bound m (by omega)
    obtain ⟨hsm, hc8⟩ := wt_small (t := t) (by omega)
    obtain ⟨hsmm, hcm8⟩ := wt_small (t := m) (by omega)
    obtain ⟨wo, eo, ho⟩ := At_ok hsm hc8 hv1 hx
    have eF := Full_ok hsm hc8 hv1 hx
    obtain ⟨vp, ep, hp⟩ := Put_ok hsm (by omega) (m := m) (by omega) hv1 hw1 hx
    have cA := fun {β : Type} (st : St) (K : Kv β) => callTx (F := 20) hv1 hx rfl eo st K
    have cF := fun {β : Type} (st : St) (K : Kv β) => callTx (F := 21) hv1 hx rfl eF st K
    have cP := fun {β : Type} (st : St) (K : Kv β) => callS_bare (f := 29) st K rfl (by simp only [List.map_cons, List.map_nil, (isN_one hv1).2, (isN_one hw1).2, hx.strip]) (by simp only [bares_cons, (isN_one hv1).1, (isN_one hw1).1, hx.bare]; rfl) ep
    have ctx := fun {β : Type} (st : St) (K : Kv β) => callT hv1 rfl (hsm.text hv1) st K
    have ctm := fun {β : Type} (st : St) (K : Kv β) => callT hw1 rfl (hsmm.text hw1) st K
    have hfit := hx.one
    -- the second half's calls, where the path is there
    have half : ∀ {u : T} {n : Nat}, atG p t = some (u, n) → NoMiss p t →
        (∃ vt, IsN m vt ∧ ∀ {β : Type} (st : St) (K : Kv β), callS (orc vE) 20 [vp, x] st K = K (.tup [vt, .int .i64 0]) st q0) ∧
        (∃ vb, IsN t vb ∧ ∀ {β : Type} (st : St) (K : Kv β), callS (orc vE) 29 [vp, x, wo] st K = K (.tup [vb, .int .i64 0]) st q0) ∧
        (∀ {β : Type} (st : St) (K : Kv β), callS (orc vE) 10 [vp] st K = K (.str (textG (putG p t m))) st q0) ∧
        textG (putG p t m) = (textG t).take n ++ textG m ++ (textG t).drop (n + (textG u).length) ∧ n + (textG u).length ≤ (textG t).length := by
      intro u n ha hn
      have hR : atR p t = (u, n, true) := by simp only [atR, ha]
      rw [hR] at hp ho
      have hps := put_small m ha
      have hsp : Small (putG p t m) := ⟨by omega, by omega⟩
      have hput := at_put m ha
      have hRp : atR p (putG p t m) = (m, n, true) := by simp only [atR, hput]
      obtain ⟨vt, et, ht⟩ := At_ok hsp (by omega) hp hx
      rw [hRp] at et ht
      have hus := at_small ha
      obtain ⟨vb, eb, hb⟩ := Put_ok hsp (by omega) (m := u) (by omega) hp ho hx
      rw [hRp] at eb hb
      simp only [if_true] at hb
      rw [put_back m ha] at hb
      obtain ⟨pre, post, h1, h2, h3⟩ := at_split ha hn
      refine ⟨⟨vt, ht, fun st K => callTx (F := 20) hp hx rfl et st K⟩, ⟨vb, hb, fun st K => callS_bare (f := 29) st K rfl (by simp only [List.map_cons, List.map_nil, (isN_one hp).2, (isN_one ho).2, hx.strip]) (by simp only [bares_cons, (isN_one hp).1, (isN_one ho).1, hx.bare]; rfl) eb⟩, fun st K => callT hp rfl (hsp.text hp) st K, ?_, ?_⟩
      · rw [h3, h1, ← h2, List.take_left, ← List.append_assoc pre (textG u) post, ← List.length_append, List.drop_left, List.append_assoc]
      · rw [h1]; simp only [List.length_append]; omega
    obtain ⟨k, tk, tx, l, y, es, rfl, rfl, hy, hs⟩ := isN_open hv
    obtain ⟨k', tk', tx', l', y', es', rfl, rfl, hy', hs'⟩ := isN_open hw
    obtain ⟨k1, tk1, tx1, l1, y1, es1, i1, rfl, hy1, hs1⟩ := isN_open hv1
    obtain ⟨k2, tk2, tx2, l2, y2, es2, i2, rfl, hy2, hs2⟩ := isN_open hw1
    obtain ⟨k3, tk3, tx3, l3, y3, es3, i3, rfl, hy3, hs3⟩ := isN_open ho
    obtain ⟨k4, tk4, tx4, l4, y4, es4, i4, rfl, hy4, hs4⟩ := isN_open hp
    obtain ⟨s1, g1, ka, n1, fa, ea⟩ := lvN (St.mk 0 0 Tr.leaf) (k1 : Int) (tk1 : Int) tx1 y1 (Nat.le_refl _)
    have r1 : s1.ro = 0 := ka.ro
    obtain ⟨s2, g2, kb, n2, fb, eb⟩ := lvN s1 (k3 : Int) (tk3 : Int) tx3 y3 (by rw [r1]; omega)
    have r2 : s2.ro = 0 := kb.ro.trans r1
    obtain ⟨s3, g3, kc, n3, fc, ec⟩ := local_var (O := orc vE) (st := s2) (t := 41) (z := 2) (old := [.int .i64 0, .int .i64 0]) (cs := [.int .i64 (fullG p (.mk k tk tx l)).1, .int .i64 (fullG p (.mk k tk tx l)).2]) (.agg [.int .i64 (fullG p (.mk k tk tx l)).1, .int .i64 (fullG p (.mk k tk tx l)).2]) rfl rfl (by rw [r2]; omega)
    have r3 : s3.ro = 0 := kc.ro.trans r2
    obtain ⟨s4, o4, g4, kd, n4, ed⟩ := lvN2 s3 (k4 : Int) (tk4 : Int) tx4 y4 (by rw [r3]; omega)
    have r4 : s4.ro = 0 := kd.ro.trans r3
    have h12 := kb.old _ _ (fun f => f) g1
    have h13 := kc.old _ _ (fun f => f) h12
    have h14 := kd.old _ _ (fun f => f) h13
    have h23 := kc.old _ _ (fun f => f) g2
    have h24 := kd.old _ _ (fun f => f) h23
    have h34 := kd.old _ _ (fun f => f) g3
    have hne : ((0 : Nat) : Nat) ≠ s3.h := by rw [n3]; omega
    have hne' : (St.mk 0 0 Tr.leaf).h ≠ s3.h := hne
    have ap1 : ∀ o, apart ⟨[(St.mk 0 0 Tr.leaf).h], .kept⟩ ⟨[], .made s3.h o⟩ = true := fun o => apart_mk hne'
    simp (maxSteps := 3000000) only [g7, unA_agg, unc_cons, asI_int, asS_str, asB_bool, un0_nil, hy.asOne, hy.fit1, hy'.asOne, hy'.fit1, call_works, Bool.not_true, ifB_false, cw1, cw2, decide_eq_false q1, decide_eq_false q2, plen hx, decide_eq_false q3, bindO_ok, cg1, letSt_eq, hy1.asOne]
    simp (maxSteps := 3000000) only [ea, loadS_mp g1, List.drop_zero, takeO4, bindO_ok, unA_agg, unc_cons, asI_int, asS_str, asB_bool, un0_nil, cA, unT_tup, nthS_zero, nthS_one, hy3.asOne, eb, loadS_mp h12, cF, ec, loadS_mp h13, cg2, ap_q0, Bool.and_self, chk_true, cP, apart_mk0, ap1, hy4.asOne, ed, apart_k0]
    cases ha : atG p (.mk k tk tx l) with
    | none =>
      have hR : atR p (.mk k tk tx l) = (.mk 0 0 [] [], 0, false) := by simp only [atR, ha]
      simp only [hR, errG]
      rfl
    | some un =>
      obtain ⟨u, n⟩ := un
      have hR : atR p (.mk k tk tx l) = (u, n, true) := by simp only [atR, ha]
      have hfull : fullG p (.mk k tk tx l) = ((n : Int), ((n + (textG u).length : Nat) : Int)) := by simp only [fullG, hR]; rfl
      obtain ⟨i, b', s5, e5, k5, h5⟩ := put_loop hsm hc8 hv1 hx ha (s0 := St.mk 0 0 Tr.leaf) p.length 0 false s4 (by omega) h14 r4
      have e5 : loopO (g7_L1 x (St.mk 0 0 Tr.leaf)) ([.bool false, .int .i64 0], s4) = _ := e5
      simp only [hR, errG, if_true, show ((0 : Int) != 0) = false from rfl, ifB_false]
      rw [e5]
      rcases h5 with ⟨rfl, hno⟩ | ⟨rfl, rfl⟩
      · obtain ⟨⟨vt, ht, cT⟩, ⟨vb, hb, cB⟩, cX, htext, hlen⟩ := half ha fun j hj => hno j (Nat.zero_le _) hj
        have m14 := k5.old _ _ (fun f => f) h14
        have m24 := k5.old _ _ (fun f => f) h24
        have m34 := k5.old _ _ (fun f => f) h34
        have m44 := k5.old _ _ (fun f => f) g4
        have r5 : s5.ro = 0 := k5.ro.trans r4
        obtain ⟨k6, tk6, tx6, l6, y6, es6, i6, rfl, hy6, hs6⟩ := isN_open ht
        obtain ⟨k7, tk7, tx7, l7, y7, es7, i7, rfl, hy7, hs7⟩ := isN_open hb
        obtain ⟨s6, g6, kf, n6, ff, ef⟩ := lvN s5 (k6 : Int) (tk6 : Int) tx6 y6 (by rw [r5]; omega)
        have r6 : s6.ro = 0 := kf.ro.trans r5
        obtain ⟨s7, g7', kg, n7, fg, eg⟩ := lvN s6 (k7 : Int) (tk7 : Int) tx7 y7 (by rw [r6]; omega)
        have p14 := kg.old _ _ (fun f => f) (kf.old _ _ (fun f => f) m14)
        have p24' := kf.old _ _ (fun f => f) m24
        have p34 := kg.old _ _ (fun f => f) (kf.old _ _ (fun f => f) m34)
        have p44' := kf.old _ _ (fun f => f) m44
        have p44 := kg.old _ _ (fun f => f) p44'
        have p6 := kg.old _ _ (fun f => f) g6
        rw [hfull] at m34 p34
        have la : ∀ {s : St}, s.get s2.h = .ok (.cells 41 [.int .i64 (n : Int), .int .i64 ((n + (textG u).length : Nat) : Int)]) → ∀ {β : Type} (K : AV → List Nat → Option β), loadS 1 false (.mp s2.h 0) s K = K (.int .i64 (n : Int)) [s2.h] := fun h _ K => by rw [loadS_mp h]; rfl
        have lb : ∀ {s : St}, s.get s2.h = .ok (.cells 41 [.int .i64 (n : Int), .int .i64 ((n + (textG u).length : Nat) : Int)]) → ∀ {β : Type} (K : AV → List Nat → Option β), loadS 1 false (.mp s2.h 1) s K = K (.int .i64 ((n + (textG u).length : Nat) : Int)) [s2.h] := fun h _ K => by rw [loadS_mp h]; rfl
        have cS1 := fun {β : Type} (st : St) (K : Kv β) => callT2 (F := 18) ht hw rfl (rtree_ok _ _ _ _ ht hw) st K
        have cS2 := fun {β : Type} (st : St) (K : Kv β) => callT2 (F := 18) hb hv rfl (rtree_ok _ _ _ _ hb hv) st K
        have z1 : ¬ (n : Int) < 0 := by omega
        have z2 : ¬ (n : Int) > ((n + (textG u).length : Nat) : Int) := by omega
        have z3 : ¬ ((n + (textG u).length : Nat) : Int) > ((textG (.mk k tk tx l)).length : Int) := by omega
        have hle1 := (toks_bound (.mk k tk tx l)).2
        have hle2 := (toks_bound (.mk k' tk' tx' l')).2
        have hb1 := hsm.2
        have hb2 := hsmm.2
        have ap2 : ∀ l : List Nat, apart q0 ⟨l, .kept⟩ = true := fun _ => rfl
        have n1' : Nat.ble ((List.drop 0 (List.take n (textG (.mk k tk tx l)))).length + (textG (.mk k' tk' tx' l')).length) 9223372036854775807 = true := Nat.ble_eq_true_of_le (by rw [List.drop_zero, List.length_take]; omega)
        have n2' : Nat.ble ((List.drop 0 (List.take n (textG (.mk k tk tx l))) ++ textG (.mk k' tk' tx' l')).length + (List.drop (n + (textG u).length) (textG (.mk k tk tx l))).length) 9223372036854775807 = true := Nat.ble_eq_true_of_le (by rw [List.length_append, List.drop_zero, List.length_take, List.length_drop]; omega)
        simp (maxSteps := 3000000) only [bindO_ok, unc_cons, asB_bool, un0_nil, sel2_zero, loadS_mp m14, List.drop_zero, takeO4, unA_agg, asI_int, asS_str, ctx, la m34, lb m34, ifB_decide, if_neg z1, if_neg z2, decide_eq_false z3, ifB_false, if_false, loadS_mp m44, cT, unT_tup, nthS_zero, nthS_one, letSt_eq, hy6.asOne, ef, loadS_mp p44', loadS_mp p24', cB, hy7.asOne, eg]
        simp (maxSteps := 3000000) only [show ((0 : Int) == 0) = true from rfl, ifB_true, loadS_mp p6, loadS_mp g7', loadS_mp p44, List.drop_zero, takeO4, bindO_ok, unA_agg, unc_cons, asI_int, asS_str, asB_bool, un0_nil, cS1, cS2, same_refl, cX, q0_ap, ap2, Bool.and_self, chk_true, la p34, lb p34, uptoS_nat (show n ≤ (textG (.mk k tk tx l)).length by omega), uptoS_nat hlen, letV_eq, cg2, ap_q0, ctm]
        simp only [List.drop_zero] at n1' n2'
        simp only [n1', n2', chk_true, List.take_length, htext, beq_self_eq_true, if_neg z3, bindO_ok, unc_cons, asB_bool, un0_nil]
      · simp only [bindO_ok, unc_cons, asB_bool, un0_nil, sel2_one]
  exact bare_of rfl hgo
end Go.Proofs.YtflnfagdpoddiaaGreatDoor.Vm
set_option maxRecDepth 100000
set_option linter.unusedSimpArgs false
namespace Go.Proofs.YtflnfagdpoddiaaGreatDoor.Vm
open Go Go.VM Go.Proofs Go.Parse Go.Green

def lawS : List TypeId := [9, 5, 3, 26, 23, 24, 36]
theorem lawS_ok : ∀ t, inS lawS t = true → okTy Tryz.prog lawS t = true := by
  intro t ht
  have : t ∈ lawS := by
    obtain ⟨u, hu, e⟩ := List.any_eq_true.1 ht
    rw [← Nat.eq_of_beq_eq_true e]; exact hu
  exact List.all_eq_true.1 (show (lawS.all fun t => okTy Tryz.prog lawS t) = true by kernel_rfl) t this
theorem av_str {n t : Nat} {cs : List AV} (hu : Tryz.prog.underlying t = some .string) (h : AvOf Tryz.prog n t cs) : ∃ s, cs = [.str s] ∧ s.length ≤ maxLen := by
  cases n with
  | zero => cases h
  | succ n => simp only [AvOf, hu] at h; exact h
theorem av_u8 {n t : Nat} {cs : List AV} (hu : Tryz.prog.underlying t = some (.int .u8)) (h : AvOf Tryz.prog n t cs) : ∃ m : Nat, cs = [.int .u8 (m : Int)] := by
  cases n with
  | zero => cases h
  | succ n =>
    simp only [AvOf, hu] at h
    obtain ⟨m, rfl, h1, h2⟩ := h
    have h1 : (0 : Int) ≤ m := h1
    exact ⟨m.toNat, by rw [Int.toNat_of_nonneg h1]⟩
theorem av_int {n t : Nat} {cs : List AV} (hu : Tryz.prog.underlying t = some (.int .i64)) (h : AvOf Tryz.prog n t cs) : ∃ m : Int, cs = [.int .i64 m] := by
  cases n with
  | zero => cases h
  | succ n =>
    simp only [AvOf, hu] at h
    obtain ⟨m, rfl, _⟩ := h
    exact ⟨m, rfl⟩
theorem token_of {n : Nat} {cs : List AV} (h : AvOf Tryz.prog n 23 cs) : ∃ (m : Nat) (s : List UInt8), cs = [.int .u8 (m : Int), .str s] := by
  cases n with
  | zero => cases h
  | succ n =>
    simp only [AvOf, Tryz.underlying23] at h
    obtain ⟨a0, b0, rfl, h0, a1, b1, rfl, h1, rfl⟩ := h
    obtain ⟨x, rfl⟩ := av_u8 Tryz.underlying5 h0
    obtain ⟨s, rfl, _⟩ := av_str Tryz.underlying9 h1
    exact ⟨x, s, rfl⟩
theorem av_sl {n t e : Nat} {cs : List AV} (hu : Tryz.prog.underlying t = some (.slice e)) (h : AvOf Tryz.prog (n + 1) t cs) {b : Bool} (hst : isSt Tryz.prog e = b) {z : Nat} (hz : Tryz.prog.cellsOf e = z) :
    ∃ (x : AV) (L : List (List AV)), cs = [x] ∧ IsSl z x (L.map (mkV b)) ∧ (∀ a ∈ L, AvOf Tryz.prog n e a) ∧ bulkAs (L.map (mkV b)) + 1 ≤ bulkAs cs := by
  simp only [AvOf, hu] at h
  rcases h with rfl | rfl | ⟨L, rfl, hl, hL⟩
  · exact ⟨_, [], rfl, IsSl.nils, (fun _ h => by cases h), by rw [bulkAs_cons, List.map_nil, bulkAs_nil]; simp only [bulkA]; omega⟩
  · exact ⟨_, [], rfl, IsSl.emp, (fun _ h => by cases h), by rw [bulkAs_cons, List.map_nil, bulkAs_nil]; simp only [bulkA]; omega⟩
  · rw [hst, hz]
    refine ⟨_, L, rfl, IsSl.wide (by rw [List.length_map]; simpa [maxLen] using hl), hL, ?_⟩
    rw [bulkAs_cons, bulkAs_nil, bulkA_sl]
    exact Nat.le_refl _
theorem nodes_in : ∀ {L : List (List AV)}, (∀ a ∈ L, ∃ t, IsN t (.agg a) ∧ 4 * cntT t ≤ bulkAs a) → ∃ l, IsNs l (L.map (mkV true)) ∧ 4 * cntL l ≤ bulkAs (L.map (mkV true))
  | [], _ => ⟨[], IsNs.nil, by simp [cntL]⟩
  | a :: L, h => by
    obtain ⟨t, ht, hn⟩ := h a List.mem_cons_self
    obtain ⟨l, hl, hm⟩ := nodes_in (L := L) fun b hb => h b (List.mem_cons_of_mem _ hb)
    refine ⟨t :: l, IsNs.cons ht hl, ?_⟩
    simp only [cntL, List.map_cons, bulkAs_cons]
    have : bulkA (mkV true a) = bulkAs a := bulkA_agg a
    omega
theorem node_of : ∀ (n : Nat) {cs : List AV}, AvOf Tryz.prog n 26 cs → ∃ t, IsN t (.agg cs) ∧ 4 * cntT t ≤ bulkAs cs := by
  intro n
  induction n using Nat.strongRecOn with
  | _ n ih =>
    intro cs h
    cases n with
    | zero => cases h
    | succ n =>
      simp only [AvOf, Tryz.underlying26] at h
      obtain ⟨a0, b0, rfl, h0, a1, b1, rfl, h1, a2, b2, rfl, h2, rfl⟩ := h
      obtain ⟨k, rfl⟩ := av_u8 Tryz.underlying5 h0
      obtain ⟨tk, s, rfl⟩ := token_of h1
      cases n with
      | zero => cases h2
      | succ n =>
        obtain ⟨x, L, rfl, hx, hL, hb⟩ := av_sl Tryz.underlying24 h2 (b := true) (by kernel_rfl) (z := 4) (by kernel_rfl)
        obtain ⟨l, hl, hm⟩ := nodes_in fun a ha => ih n (by omega) (hL a ha)
        refine ⟨.mk k tk s l, by simp only [IsN]; exact ⟨x, _, rfl, hx, hl⟩, ?_⟩
        simp only [cntT, bulkAs_app, bulkAs_cons, bulkAs_nil, bulkA_int, bulkA_str] at hb ⊢
        omega
theorem path_of {n : Nat} {cs : List AV} (h : AvOf Tryz.prog n 36 cs) : ∃ (x : AV) (p : List Int), cs = [x] ∧ IsSl 1 x (p.map (AV.int .i64)) ∧ p.length ≤ bulkAs cs := by
  cases n with
  | zero => cases h
  | succ n =>
    obtain ⟨x, L, rfl, hx, hL, hb⟩ := av_sl Tryz.underlying36 h (b := false) (by kernel_rfl) (z := 1) (by kernel_rfl)
    have key : ∀ L : List (List AV), (∀ a ∈ L, AvOf Tryz.prog n 3 a) → ∃ p : List Int, L.map (mkV false) = p.map (AV.int .i64) ∧ p.length ≤ bulkAs (L.map (mkV false)) := by
      intro L
      induction L with
      | nil => exact fun _ => ⟨[], rfl, Nat.zero_le _⟩
      | cons a L ih =>
        intro h
        obtain ⟨m, rfl⟩ := av_int Tryz.underlying3 (h a List.mem_cons_self)
        obtain ⟨p, e, hp⟩ := ih fun b hb => h b (List.mem_cons_of_mem _ hb)
        refine ⟨m :: p, by rw [List.map_cons, e]; rfl, ?_⟩
        rw [List.map_cons, bulkAs_cons]
        have : bulkA (mkV false [AV.int .i64 m]) = 1 := bulkA_int _ _
        rw [List.length_cons]
        omega
    obtain ⟨p, e, hp⟩ := key L hL
    exact ⟨x, p, rfl, e ▸ hx, by omega⟩
end Go.Proofs.YtflnfagdpoddiaaGreatDoor.Vm
