/-
  (A part of the proof: GreenParts, GreenArg.)
-/
import Derived.Test.YtflnfagdpoddiaaGreatDoorVmCC
import Derived.Test.YtflnfagdpoddiaaGreatDoorVmBF
import Derived.Test.YtflnfagdpoddiaaGreatDoorVmCB
import Derived.Test.YtflnfagdpoddiaaGreatDoorVmBI
set_option maxRecDepth 100000
set_option linter.unusedSimpArgs false
set_option maxHeartbeats 4000000
namespace Go.Proofs.YtflnfagdpoddiaaGreatDoor.Vm
open Go Go.VM Go.Proofs Go.Lex Go.Parse Go.Green

theorem callS_strip {β : Type} {E : Env} {f : FuncId} {args args' : List AV} {v : AV} (st : St) (K : Kv β) (hf : E.full f = false) (hs : args.map strip = args') (hb : bares args' = true) (h : (orc E).bare f args' = some v) : callS (orc E) f args st K = K v st q0 := by
  have hf : (orc E).full f = false := hf
  simp only [callS, callO, hs, hb, hf, Bool.not_false, Bool.and_self, h, outS, bindO_ok]
def ApFx (h : Nat) (x : Fx) : Prop := x = q0 ∨ (∃ o, x = ⟨[], .made h o⟩) ∨ ∃ o, x = ⟨[h], .wrote h o⟩
theorem ApFx.read {h a : Nat} {x : Fx} (hx : ApFx h x) (ha : a ≠ h) : apart ⟨[a], .kept⟩ x = true := by
  rcases hx with rfl | ⟨o, rfl⟩ | ⟨o, rfl⟩
  · rfl
  · show (![a].contains h) = true
    simp [ha.symm]
  · exact apart_wr ha
theorem ApFx.quiet {h : Nat} {x : Fx} (hx : ApFx h x) : apart x ⟨[], .kept⟩ = true := by
  rcases hx with rfl | ⟨o, rfl⟩ | ⟨o, rfl⟩ <;> rfl
theorem ApFx.wr {h a : Nat} {x : Fx} {o : VM.Obj} (hx : ApFx h x) (ha : a ≠ h) : apart x ⟨[a], .wrote a o⟩ = true := by
  rcases hx with rfl | ⟨o', rfl⟩ | ⟨o', rfl⟩
  · rfl
  · show ((!h.beq a && !([a].contains h)) && !(([] : List Nat).contains a)) = true
    have h1 : h.beq a = false := by
      cases e : h.beq a with
      | false => rfl
      | true => exact absurd (Nat.eq_of_beq_eq_true e).symm ha
    simp [h1, ha.symm]
  · show ((!h.beq a && !([a].contains h)) && !([h].contains a)) = true
    have h1 : h.beq a = false := by
      cases e : h.beq a with
      | false => rfl
      | true => exact absurd (Nat.eq_of_beq_eq_true e).symm ha
    simp [h1, ha, ha.symm]
theorem path_app2 {p : List Int} (hp : p.length ≤ 1000000) (i : Int) {st : St} (hro : st.ro ≤ st.h) : ∃ v1 s1 x1 s2 x2, ApFx st.h x1 ∧ ApFx st.h x2 ∧ Keeps st s2 (fun _ => False) ∧
    (∀ {β : Type} (K : Kv β), appS 1 8 3 (.sl 1 [] .shut) (p.map (AV.int .i64)) st K = K v1 s1 x1) ∧ (∀ {β : Type} (K : Kv β), appS 1 8 3 v1 [.int .i64 i] s1 K = K (.sl 1 ((p ++ [i]).map (AV.int .i64)) (.own st.h)) s2 x2) := by
  cases p with
  | nil =>
    have hr : roomOk (([] : List AV).length + [AV.int .i64 i].length) ⟨.other, 1, 8, [], false, false⟩ = true := room_of (by simp) (by omega) (by omega)
    refine ⟨.sl 1 [] .shut, st, q0, st.add (.tok 1 3), ⟨[], .made st.h (.tok 1 3)⟩, .inl rfl, .inr (.inl ⟨_, rfl⟩), Keeps.add _ _ _, fun K => rfl, fun K => ?_⟩
    have e : appO 1 8 3 (.sl 1 [] .shut) [.int .i64 i] st = madeO st (.tok 1 3) fun k => .sl 1 [.int .i64 i] (.own k) := by
      simp only [appO, hr, Nat.beq_refl, Bool.and_self]
      rfl
    simp only [appS, e]
    rfl
  | cons a p =>
    have hl : ((a :: p).map (AV.int .i64)).length = p.length + 1 := by simp
    simp only [List.length_cons] at hp
    have hr : roomOk (([] : List AV).length + ((a :: p).map (AV.int .i64)).length) ⟨.other, 1, 8, [], false, false⟩ = true := room_of (by rw [hl]; simp; omega) (by omega) (by omega)
    have hr2 : roomOk (((a :: p).map (AV.int .i64)).length + [AV.int .i64 i].length) ⟨.other, 1, 8, [], false, false⟩ = true := room_of (by rw [hl]; simp; omega) (by omega) (by omega)
    have e1 : appO 1 8 3 (.sl 1 [] .shut) ((a :: p).map (AV.int .i64)) st = madeO st (.tok (([] : List AV).length + ((a :: p).map (AV.int .i64)).length) 3) fun k => .sl 1 ([] ++ (a :: p).map (AV.int .i64)) (.own k) := by
      simp only [List.map_cons, appO] at hr ⊢
      simp only [hr, Nat.beq_refl, Bool.and_self]
    have hg : (st.add (.tok (([] : List AV).length + ((a :: p).map (AV.int .i64)).length) 3)).get st.h = .ok (.tok (([] : List AV).length + ((a :: p).map (AV.int .i64)).length) 3) := St.get_add_new
    have hz : ([] : List AV).length + ((a :: p).map (AV.int .i64)).length = ((a :: p).map (AV.int .i64)).length := by simp
    rw [hz] at e1 hg
    have e2 : appO 1 8 3 (.sl 1 ([] ++ (a :: p).map (AV.int .i64)) (.own st.h)) [.int .i64 i] (st.add (.tok ((a :: p).map (AV.int .i64)).length 3)) = wroteO (st.add (.tok ((a :: p).map (AV.int .i64)).length 3)) st.h (.tok (((a :: p).map (AV.int .i64)).length + [AV.int .i64 i].length) 3) (.sl 1 ((a :: p).map (AV.int .i64) ++ [.int .i64 i]) (.own st.h)) [st.h] := by
      simp only [List.nil_append, appO, hr2, Nat.beq_refl, Bool.and_self, hg]
    have hw : (st.add (.tok ((a :: p).map (AV.int .i64)).length 3)).ro.ble st.h = true := Nat.ble_eq_true_of_le hro
    refine ⟨.sl 1 ([] ++ (a :: p).map (AV.int .i64)) (.own st.h), st.add (.tok ((a :: p).map (AV.int .i64)).length 3), ⟨[], .made st.h (.tok ((a :: p).map (AV.int .i64)).length 3)⟩,
      (st.add (.tok ((a :: p).map (AV.int .i64)).length 3)).put st.h (.tok (((a :: p).map (AV.int .i64)).length + [AV.int .i64 i].length) 3), ⟨[st.h], .wrote st.h (.tok (((a :: p).map (AV.int .i64)).length + [AV.int .i64 i].length) 3)⟩,
      .inr (.inl ⟨_, rfl⟩), .inr (.inr ⟨_, rfl⟩), (Keeps.add _ _ _).fresh (Keeps.put rfl) (Nat.le_refl _), fun K => ?_, fun K => ?_⟩
    · simp only [appS, e1]
      rfl
    · simp only [appS, e2, wroteO, hw, outS, bindO_ok]
      rw [List.map_append]; rfl
theorem intsF (p : List Int) {β : Type} (K : List AV → Option β) : fitTs false (p.map (AV.int .i64)) K = K (p.map (AV.int .i64)) :=
  fitTs_of (fun v hv K => by
    obtain ⟨i, _, rfl⟩ := List.mem_map.1 hv
    rfl) K
theorem intsS (p : List Int) : sizesOk 1 (p.map (AV.int .i64)) = true := sizesOk_of fun v hv => by
  obtain ⟨i, _, rfl⟩ := List.mem_map.1 hv
  rfl
theorem hatch_ok {st : St} {nm : Nat} {t : TypeId} {z : List AV} (hg : st.get nm = .ok .egg) (hro : st.ro ≤ nm) {β : Type} (K : Kv β) : hatchS t z nm st K = K (.mp nm 0) (st.put nm (.cells t z)) ⟨[nm], .wrote nm (.cells t z)⟩ := by
  have h : st.ro.ble nm = true := Nat.ble_eq_true_of_le hro
  simp only [hatchS, hatchO, hg, wroteO, h, outS, bindO_ok]
structure PtS (t : T) (x1 : AV) (k1 tk1 : Nat) (tx1 : List UInt8) (a : Nat) (ku tku : Nat) (txu : List UInt8) (yu : AV) (b : Nat) (f g : Int) (st : St) : Prop where
  node : st.get 0 = .ok (.cells ND [.int .u8 (k1 : Int), .int .u8 (tk1 : Int), .str tx1, x1])
  kid : st.get a = .ok (.cells ND [.int .u8 (ku : Int), .int .u8 (tku : Int), .str txu, yu])
  full : st.get b = .ok (.cells 41 [.int .i64 f, .int .i64 g])
  ro : st.ro = 0
theorem PtS.keeps {t : T} {x1 yu : AV} {k1 tk1 a ku tku b : Nat} {tx1 txu : List UInt8} {f g : Int} {st st' : St} (h : PtS t x1 k1 tk1 tx1 a ku tku txu yu b f g st) (hk : Keeps st st' (fun _ => False)) : PtS t x1 k1 tk1 tx1 a ku tku txu yu b f g st' :=
  ⟨hk.old _ _ (fun f => f) h.node, hk.old _ _ (fun f => f) h.kid, hk.old _ _ (fun f => f) h.full, by rw [hk.ro]; exact h.ro⟩
theorem parts_loop {t : T} (hsm : Small t) (hc : cntT t ≤ 800000) {k1 tk1 : Nat} {tx1 : List UInt8} {x1 : AV} (hN : IsN t (.agg [.int .u8 (k1 : Int), .int .u8 (tk1 : Int), .str tx1, x1])) {p : List Int} {x : AV} (hx : IsSl 1 x (p.map (AV.int .i64))) (hp : p.length ≤ 1000) {ku tku : Nat} {txu : List UInt8} {lu : List T} {n : Nat} (ha : atG p t = some (.mk ku tku txu lu, n)) (hk2 : ku = 2 → lu = []) {yu : AV} {eu : List AV} (hyu : IsSl 4 yu eu) (hsu : IsNs lu eu) {s0 sa : St} (hs0 : s0.h = 0) {b : Nat} {f g : Int} : ∀ (m : List T) (j : Nat) (st : St), lu.drop j = m → PtS t x1 k1 tk1 tx1 sa.h ku tku txu yu b f g st →
    ∃ st', loopO (g4_L1 x s0 sa) ([.bool false, .int .i64 ((n + (textGL (lu.take j)).length : Nat) : Int), .int .i64 (j : Int)], st) = some (0, [.bool false, .int .i64 ((n + (textGL lu).length : Nat) : Int)], st') ∧ PtS t x1 k1 tk1 tx1 sa.h ku tku txu yu b f g st'
  | [], j, st, hd, h => by
    have hj := List.drop_eq_nil_iff.1 hd
    have q : ¬ (j : Int) < (lu.length : Int) := by omega
    have l3 : ∀ {β : Type} (K : AV → List Nat → Option β), loadS 1 false (.mp sa.h 3) st K = K yu [sa.h] := fun K => by rw [loadS_mp h.kid]; rfl
    refine ⟨st, loopO_inr ?_, h⟩
    simp only [g4_L1, unc_cons, asB_bool, asI_int, un0_nil, l3, ns_len hyu hsu, ifB_decide, if_neg q, List.take_of_length_le hj]
  | w :: m, j, st, hd, h => by
    obtain ⟨hgt, hr, hlt⟩ := drop_cons hd
    have q : (j : Int) < (lu.length : Int) := by omega
    have hlen := ns_lt hyu hsu
    have hk : ku ≠ 2 := fun h2 => by rw [hk2 h2] at hlt; simp at hlt
    have l3 : ∀ {β : Type} (K : AV → List Nat → Option β), loadS 1 false (.mp sa.h 3) st K = K yu [sa.h] := fun K => by rw [loadS_mp h.kid]; rfl
    -- the Kid's full span
    have hj : ((j : Int)).toNat = j := by omega
    have hat : atG (p ++ [(j : Int)]) t = some (w, n + (textGL (lu.take j)).length) := by
      rw [at_app [(j : Int)] ha]
      simp only [atG, if_neg (show ¬ (j : Int) < 0 by omega), hj, hgt, preLen, if_neg hk, Nat.add_zero]
    have hR : atR (p ++ [(j : Int)]) t = (w, n + (textGL (lu.take j)).length, true) := by simp only [atR, hat]
    have hfull : fullG (p ++ [(j : Int)]) t = (((n + (textGL (lu.take j)).length : Nat) : Int), ((n + (textGL (lu.take j)).length + (textG w).length : Nat) : Int)) := by simp only [fullG, hR]; rfl
    have hnext : n + (textGL (lu.take j)).length + (textG w).length = n + (textGL (lu.take (j + 1))).length := by
      have h1 : textGL (lu.take (j + 1)) = textGL (lu.take j) ++ textG w := by
        rw [List.take_succ_eq_append_getElem hlt, textGL_app]
        have : lu[j] = w := by
          rw [List.getElem?_eq_getElem hlt] at hgt
          simpa using hgt
        rw [this]
        simp [textGL]
      rw [h1, List.length_append, Nat.add_assoc]
    have hx2 : IsSl 1 (.sl 1 ((p ++ [(j : Int)]).map (AV.int .i64)) .wide) ((p ++ [(j : Int)]).map (AV.int .i64)) := IsSl.wide (by simp; omega)
    have eF := Full_ok hsm hc hN hx2
    rw [hfull, hR] at eF
    have k1e : Keeps st (st.add .egg) (fun _ => False) := Keeps.add _ _ _
    have he : (st.add .egg).get st.h = .ok .egg := St.get_add_new
    have h1 := h.keeps k1e
    have hro1 : (st.add VM.Obj.egg).ro = 0 := h.ro
    obtain ⟨va, s1, xa, s2, xb, hxa, hxb, kab, ea, eb⟩ := path_app2 (p := p) (by omega) (j : Int) (st := st.add .egg) (by rw [hro1]; omega)
    have hh1 : (st.add VM.Obj.egg).h = st.h + 1 := rfl
    have h2 := h1.keeps kab
    have he2 := kab.old _ _ (fun f => f) he
    have cF : ∀ {β : Type} (K : Kv β), callS (orc vE) 21 [.agg [.int .u8 (k1 : Int), .int .u8 (tk1 : Int), .str tx1, x1], .sl 1 ((p ++ [(j : Int)]).map (AV.int .i64)) (.own (st.add VM.Obj.egg).h)] s2 K = _ := fun K => callS_strip s2 K rfl (by simp only [List.map_cons, List.map_nil, (isN_one hN).2]; rfl) (by simp only [bares_cons, (isN_one hN).1]; rfl) eF
    have hat2 : ∀ {β : Type} (K : Kv β), hatchS 41 [.int .i64 0, .int .i64 0] st.h s2 K = _ := fun K => hatch_ok he2 (by rw [kab.ro, hro1]; omega) K
    generalize hs3 : s2.put st.h (.cells 41 [.int .i64 0, .int .i64 0]) = s3 at hat2
    have k3 : Keeps s2 s3 (· = st.h) := by rw [← hs3]; exact Keeps.put rfl
    have g3 : s3.get st.h = .ok (.cells 41 [.int .i64 0, .int .i64 0]) := by rw [← hs3, St.get_put_same (St.get_ok.1 he2).1]
    have hne0 : (0 : Nat) ≠ st.h := Nat.ne_of_lt (St.get_ok.1 h.node).1
    have hnea : sa.h ≠ st.h := Nat.ne_of_lt (St.get_ok.1 h.kid).1
    have hneb : b ≠ st.h := Nat.ne_of_lt (St.get_ok.1 h.full).1
    have h3 : PtS t x1 k1 tk1 tx1 sa.h ku tku txu yu b f g s3 := ⟨k3.of_ne hne0 h2.node, k3.of_ne hnea h2.kid, k3.of_ne hneb h2.full, by rw [k3.ro]; exact h2.ro⟩
    obtain ⟨s4, o4, g4, k4, n4, e4⟩ := var_put2 (O := orc vE) (.agg [.int .i64 ((n + (textGL (lu.take j)).length : Nat) : Int), .int .i64 ((n + (textGL (lu.take j)).length + (textG w).length : Nat) : Int)]) g3 (z := 2) (cs := [.int .i64 ((n + (textGL (lu.take j)).length : Nat) : Int), .int .i64 ((n + (textGL (lu.take j)).length + (textG w).length : Nat) : Int)]) rfl rfl (by rw [h3.ro]; omega)
    have h4 : PtS t x1 k1 tk1 tx1 sa.h ku tku txu yu b f g s4 := ⟨k4.of_ne hne0 h3.node, k4.of_ne hnea h3.kid, k4.of_ne hneb h3.full, by rw [k4.ro]; exact h3.ro⟩
    have lf : ∀ {β : Type} (K : AV → List Nat → Option β), loadS 1 false (.mp st.h 0) s4 K = K (.int .i64 ((n + (textGL (lu.take j)).length : Nat) : Int)) [st.h] := fun K => by rw [loadS_mp g4]; rfl
    have lt : ∀ {β : Type} (K : AV → List Nat → Option β), loadS 1 false (.mp st.h 1) s4 K = K (.int .i64 ((n + (textGL (lu.take j)).length + (textG w).length : Nat) : Int)) [st.h] := fun K => by rw [loadS_mp g4]; rfl
    obtain ⟨st', e', h'⟩ := parts_loop hsm hc hN hx hp ha hk2 hyu hsu hs0 m (j + 1) s4 hr h4
    refine ⟨st', ?_, h'⟩
    rw [← hnext] at e'
    rw [loopO_inl (s' := ([.bool false, .int .i64 ((n + (textGL (lu.take j)).length + (textG w).length : Nat) : Int), .int .i64 ((j + 1 : Nat) : Int)], s4)), e']
    have w0 : (0 : Nat) ≠ (st.add VM.Obj.egg).h := by rw [hh1]; omega
    have w1 : st.h ≠ (st.add VM.Obj.egg).h := by rw [hh1]; omega
    have ld0 : ∀ {β : Type} (K : AV → List Nat → Option β), loadS 4 true (.mp s0.h 0) (st.add VM.Obj.egg) K = K (.agg [.int .u8 (k1 : Int), .int .u8 (tk1 : Int), .str tx1, x1]) [0] := fun K => by rw [hs0, loadS_mp h1.node]; rfl
    have hq1 : ∀ o, apart q0 ⟨[st.h], .wrote st.h o⟩ = true := fun _ => rfl
    have hq2 : ∀ o, apart ⟨[], .kept⟩ ⟨[st.h], .wrote st.h o⟩ = true := fun _ => rfl
    have hq3 : ∀ o, apart ⟨[0], .kept⟩ ⟨[st.h], .wrote st.h o⟩ = true := fun o => apart_wr hne0
    have hself : ((((n + (textGL (lu.take j)).length : Nat) : Int)) != ((n + (textGL (lu.take j)).length : Nat) : Int)) = false := by simp
    have hge : ¬ ((n + (textGL (lu.take j)).length + (textG w).length : Nat) : Int) < ((n + (textGL (lu.take j)).length : Nat) : Int) := by omega
    simp only [g4_L1, unc_cons, asB_bool, asI_int, un0_nil, l3, ns_len hyu hsu, ifB_decide, if_pos q, letSt_eq, ld0, unA_agg, asS_str, hx.elems, intsF, intsS, chk_true, ea, hxa.read w0, hxa.quiet, eb, hxb.read w0, Bool.and_self, cF, errG, if_true, unT_tup, nthS_zero, nthS_one, hat2, hq1, hq2, hq3, hxa.wr w1, hxb.wr w1, e4, show ((0 : Int) != 0) = false from rfl, ifB_false, fldA_mp, Nat.zero_add, lf, lt, hself, decide_eq_false hge, bindO_ok, letV_eq, wrapA1 (show j + 1 ≤ 9223372036854775807 by omega)]
theorem check_wf {t : T} (h : checkN t = 0) : wfT t = true := by
  unfold checkN at h
  split at h
  · rename_i h1
    simp only [Bool.and_eq_true] at h1
    exact wf_form t h1.1
  · cases h
theorem law_parts {t : T} (hc : cntT t ≤ 900000) {v : AV} (hv : IsN t v) {p : List Int} {x : AV} (hx : IsSl 1 x (p.map (AV.int .i64))) : (orc vE).bare 4 [v, x] = some (.bool true) := by
  have cw := fun {β : Type} (st : St) (K : Kv β) => callT hv rfl (weight_ok t hc v hv) st K
  obtain ⟨v1, e1, hv1⟩ := given_ok t hc v hv
  have cg := fun {β : Type} (st : St) (K : Kv β) => callT hv rfl e1 st K
  have hgo : bareS vE 4 [v, x] = some (.bool true) := by
    refine (g4_eq _ _).trans ?_
    by_cases h1 : 300 ≤ wt t
    · obtain ⟨k, tk, tx, l, y, es, rfl, rfl, hy, hs⟩ := isN_open hv
      have q : ((wt (.mk k tk tx l) : Nat) : Int) ≥ 300 := by omega
      simp only [g4, unA_agg, unc_cons, asI_int, asS_str, asB_bool, un0_nil, hy.asOne, hy.fit1, call_works, Bool.not_true, ifB_false, cw, decide_eq_true q, bindO_ok, ifB_true]
    have q1 : ¬ ((wt t : Nat) : Int) ≥ 300 := by omega
    by_cases h3 : 300 < p.length
    · obtain ⟨k, tk, tx, l, y, es, rfl, rfl, hy, hs⟩ := isN_open hv
      have q3 : ((p.length : Nat) : Int) > 300 := by omega
      simp only [g4, unA_agg, unc_cons, asI_int, asS_str, asB_bool, un0_nil, hy.asOne, hy.fit1, call_works, Bool.not_true, ifB_false, cw, decide_eq_false q1, plen hx, decide_eq_true q3, bindO_ok, ifB_true]
    have q3 : ¬ ((p.length : Nat) : Int) > 300 := by omega
    obtain ⟨hsm, hc8⟩ := wt_small (t := t) (by omega)
    have hte := (toks_bound t).2
    have hle9 := hsm.2
    have cc := fun {β : Type} (st : St) (K : Kv β) => callT hv1 rfl (gcheck_ok (t := t) hc (by omega) hv1) st K
    have ctx := fun {β : Type} (st : St) (K : Kv β) => callT hv1 rfl (hsm.text hv1) st K
    obtain ⟨wo, eo, ho⟩ := At_ok hsm hc8 hv1 hx
    have cA := fun {β : Type} (st : St) (K : Kv β) => callTx (F := 20) hv1 hx rfl eo st K
    have cF := fun {β : Type} (st : St) (K : Kv β) => callTx (F := 21) hv1 hx rfl (Full_ok hsm hc8 hv1 hx) st K
    have cO := fun {β : Type} (st : St) (K : Kv β) => callTx (F := 22) hv1 hx rfl (Own_ok hsm hc8 hv1 hx) st K
    have cxo := fun {β : Type} (st : St) (K : Kv β) => callT ho rfl ((hsm.at hc8 p).1.text ho) st K
    obtain ⟨k, tk, tx, l, y, es, rfl, rfl, hy, hs⟩ := isN_open hv
    obtain ⟨k1, tk1, tx1, l1, y1, es1, i1, rfl, hy1, hs1⟩ := isN_open hv1
    obtain ⟨k3, tk3, tx3, l3, y3, es3, i3, rfl, hy3, hs3⟩ := isN_open ho
    obtain ⟨s1, g1, ka, n1, fa, ea⟩ := lvN (St.mk 0 0 Tr.leaf) (k1 : Int) (tk1 : Int) tx1 y1 (Nat.le_refl _)
    have r1 : s1.ro = 0 := ka.ro
    have g1 : s1.get 0 = .ok (.cells ND [.int .u8 (k1 : Int), .int .u8 (tk1 : Int), .str tx1, y1]) := g1
    obtain ⟨s2, g2, kb, n2, fb, eb⟩ := lvN s1 (k3 : Int) (tk3 : Int) tx3 y3 (by rw [r1]; omega)
    have r2 : s2.ro = 0 := kb.ro.trans r1
    obtain ⟨s3, g3, kc, n3, fc, ec⟩ := local_var (O := orc vE) (st := s2) (t := 41) (z := 2) (old := [.int .i64 0, .int .i64 0]) (cs := [.int .i64 (fullG p (.mk k tk tx l)).1, .int .i64 (fullG p (.mk k tk tx l)).2]) (.agg [.int .i64 (fullG p (.mk k tk tx l)).1, .int .i64 (fullG p (.mk k tk tx l)).2]) rfl rfl (by rw [r2]; omega)
    have r3 : s3.ro = 0 := kc.ro.trans r2
    obtain ⟨s4, gg4, kd, n4, fd, ed⟩ := local_var (O := orc vE) (st := s3) (t := 41) (z := 2) (old := [.int .i64 0, .int .i64 0]) (cs := [.int .i64 (ownG p (.mk k tk tx l)).1, .int .i64 (ownG p (.mk k tk tx l)).2]) (.agg [.int .i64 (ownG p (.mk k tk tx l)).1, .int .i64 (ownG p (.mk k tk tx l)).2]) rfl rfl (by rw [r3]; omega)
    have r4 : s4.ro = 0 := kd.ro.trans r3
    have h12 := kb.old _ _ (fun f => f) g1
    have h13 := kc.old _ _ (fun f => f) h12
    have h14 := kd.old _ _ (fun f => f) h13
    have h24 := kd.old _ _ (fun f => f) (kc.old _ _ (fun f => f) g2)
    have h34 := kd.old _ _ (fun f => f) g3
    simp (maxSteps := 3000000) only [g4, unA_agg, unc_cons, asI_int, asS_str, asB_bool, un0_nil, hy.asOne, hy.fit1, call_works, Bool.not_true, ifB_false, cw, decide_eq_false q1, plen hx, decide_eq_false q3, bindO_ok, cg, letSt_eq, hy1.asOne]
    simp (maxSteps := 3000000) only [ea, loadS_mp g1, List.drop_zero, takeO4, bindO_ok, unA_agg, unc_cons, asI_int, asS_str, un0_nil, cc]
    by_cases hck : checkN (.mk k tk tx l) = 0
    · have hwf := check_wf hck
      simp (maxSteps := 3000000) only [hck, show ((0 : Int) != 0) = false from rfl, ifB_false, loadS_mp g1, ctx, asS_str, cA, unT_tup, nthS_zero, nthS_one, unA_agg, unc_cons, asI_int, un0_nil, hy3.asOne, eb, loadS_mp h12, List.drop_zero, takeO4, bindO_ok, cF, ec, loadS_mp h13, cO, ed]
      cases ha : atG p (.mk k tk tx l) with
      | none =>
        have hR : atR p (.mk k tk tx l) = (.mk 0 0 [] [], 0, false) := by simp only [atR, ha]
        simp only [hR, errG]
        rfl
      | some un =>
        obtain ⟨u, n⟩ := un
        have hR : atR p (.mk k tk tx l) = (u, n, true) := by simp only [atR, ha]
        obtain ⟨hwu, hnm⟩ := wf_at ha hwf
        obtain ⟨pre, post, t1, t2, _⟩ := at_split ha hnm
        obtain ⟨o1, o2, o3⟩ := own_within ha
        have hfull : fullG p (.mk k tk tx l) = ((n : Int), ((n + (textG u).length : Nat) : Int)) := by simp only [fullG, hR]; rfl
        rw [hfull] at o1 o3
        rw [hR] at i3
        have i3 : u = _ := i3
        subst i3
        have hlen : n + (textG (T.mk k3 tk3 tx3 l3)).length ≤ (textG (.mk k tk tx l)).length := by rw [t1]; simp only [List.length_append]; omega
        have hcut : List.drop n (List.take (n + (textG (T.mk k3 tk3 tx3 l3)).length) (textG (.mk k tk tx l))) = textG (T.mk k3 tk3 tx3 l3) := by
          rw [t1, ← List.append_assoc, ← t2, ← List.length_append, List.take_left, List.drop_left]
        have hk2 : k3 = 2 → l3 = [] := fun h2 => by
          subst h2
          simp only [wfT, Bool.and_eq_true] at hwu
          cases l3 with
          | nil => rfl
          | cons _ _ => simp at hwu
        have hpt : PtS (.mk k tk tx l) y1 k1 tk1 tx1 s1.h k3 tk3 tx3 y3 s2.h (n : Int) ((n + (textG (T.mk k3 tk3 tx3 l3)).length : Nat) : Int) s4 := ⟨h14, h24, by rw [h34, hfull], r4⟩
        obtain ⟨s5, e5, h5⟩ := parts_loop hsm hc8 hv1 hx (by omega) ha hk2 hy3 hs3 (s0 := St.mk 0 0 Tr.leaf) rfl l3 0 s4 rfl hpt
        have e5 : loopO (g4_L1 x (St.mk 0 0 Tr.leaf) s1) ([.bool false, .int .i64 (n : Int), .int .i64 0], s4) = _ := e5
        have lf : ∀ {s : St}, s.get s2.h = .ok (.cells 41 [.int .i64 (n : Int), .int .i64 ((n + (textG (T.mk k3 tk3 tx3 l3)).length : Nat) : Int)]) → ∀ {β : Type} (K : AV → List Nat → Option β), loadS 1 false (.mp s2.h 0) s K = K (.int .i64 (n : Int)) [s2.h] := fun h _ K => by rw [loadS_mp h]; rfl
        have lt : ∀ {s : St}, s.get s2.h = .ok (.cells 41 [.int .i64 (n : Int), .int .i64 ((n + (textG (T.mk k3 tk3 tx3 l3)).length : Nat) : Int)]) → ∀ {β : Type} (K : AV → List Nat → Option β), loadS 1 false (.mp s2.h 1) s K = K (.int .i64 ((n + (textG (T.mk k3 tk3 tx3 l3)).length : Nat) : Int)) [s2.h] := fun h _ K => by rw [loadS_mp h]; rfl
        have lo : ∀ {β : Type} (K : AV → List Nat → Option β), loadS 1 false (.mp s3.h 0) s4 K = K (.int .i64 (ownG p (.mk k tk tx l)).1) [s3.h] := fun K => by rw [loadS_mp gg4]; rfl
        have lo1 : ∀ {β : Type} (K : AV → List Nat → Option β), loadS 1 false (.mp s3.h 1) s4 K = K (.int .i64 (ownG p (.mk k tk tx l)).2) [s3.h] := fun K => by rw [loadS_mp gg4]; rfl
        have lk : ∀ {β : Type} (K : AV → List Nat → Option β), loadS 1 false (.mp s1.h 0) s5 K = K (.int .u8 (k3 : Int)) [s1.h] := fun K => by rw [loadS_mp h5.kid]; rfl
        have lx : ∀ {β : Type} (K : AV → List Nat → Option β), loadS 1 false (.mp s1.h 2) s5 K = K (.str tx3) [s1.h] := fun K => by rw [loadS_mp h5.kid]; rfl
        have z1 : ¬ (n : Int) < 0 := by omega
        have z2 : ¬ ((n + (textG (T.mk k3 tk3 tx3 l3)).length : Nat) : Int) > ((textG (.mk k tk tx l)).length : Int) := by omega
        have z3 : ¬ (ownG p (.mk k tk tx l)).1 < (n : Int) := by simp only at o1; omega
        have z4' : ¬ (ownG p (.mk k tk tx l)).2 < (ownG p (.mk k tk tx l)).1 := by omega
        have z5 : ¬ (ownG p (.mk k tk tx l)).2 > ((n + (textG (T.mk k3 tk3 tx3 l3)).length : Nat) : Int) := by simp only at o3; omega
        have ap2 : ∀ l : List Nat, apart ⟨l, .kept⟩ q0 = true := fun _ => rfl
        rw [hR] at cxo
        have hpt3 := hpt.full
        simp (maxSteps := 3000000) only [hR, errG, if_true, show ((0 : Int) != 0) = false from rfl, ifB_false, lf hpt3, lt hpt3, ifB_decide, if_neg z1, if_neg z2, lo, lo1, if_neg z3, if_neg z4', if_neg z5, uptoS_nat hlen, uptoS_nat (show n ≤ n + (textG (T.mk k3 tk3 tx3 l3)).length by omega), letV_eq, hcut, loadS_mp h24, List.drop_zero, takeO4, bindO_ok, unA_agg, unc_cons, asI_int, asS_str, un0_nil, cxo, ap2, Bool.and_self, chk_true, beq_self_eq_true, Bool.not_true, asB_bool, ifB_false]
        rw [e5]
        have e2 : ((k3 : Int) == 2) = (k3 == 2) := nat_beq k3 2
        have e3 : ((k3 : Int) != 2) = !(k3 == 2) := nat_bneI k3 2
        simp (maxSteps := 3000000) only [bindO_ok, unc_cons, asB_bool, asI_int, un0_nil, sel2_zero, lk, e2, e3]
        by_cases hk : k3 = 2
        · have hl3 := hk2 hk
          have hz : textG (T.mk k3 tk3 tx3 l3) = [] := by simp only [textG, if_pos hk]
          have hz2 : n + (textGL l3).length = n + (textG (T.mk k3 tk3 tx3 l3)).length := by rw [hz, hl3]; rfl
          simp only [beq_iff_eq.2 hk, ifB_true, lt h5.full, asI_int, hz2, beq_self_eq_true, bindO_ok, unc_cons, asB_bool, un0_nil]
        · have hz : n + (textGL l3).length + tx3.length = n + (textG (T.mk k3 tk3 tx3 l3)).length := by
            simp only [textG, if_neg hk, List.length_append]
            by_cases h1 : k3 = 1
            · rw [if_pos h1]; omega
            · rw [if_neg h1]
              have : tx3 = [] := by
                simp only [wfT, Bool.and_eq_true, Bool.or_eq_true, beq_iff_eq] at hwu
                rcases hwu.1 with (h | h) | h
                · exact absurd h h1
                · exact absurd h.1 hk
                · exact h.2
              rw [this]; rfl
          have hw : IntKind.wrap .i64 (((n + (textGL l3).length : Nat) : Int) + (tx3.length : Int)) = ((n + (textG (T.mk k3 tk3 tx3 l3)).length : Nat) : Int) := by
            rw [wrapA (n := n + (textGL l3).length) (m := tx3.length) (by omega), hz]
          simp only [beq_eq_false_iff_ne.2 hk, ifB_false, Bool.not_false, ifB_true, lx, asS_str, letV_eq, hw, lt h5.full, asI_int, beq_self_eq_true, bindO_ok, unc_cons, asB_bool, un0_nil]
    · have h4 : ((checkN (.mk k tk tx l)) != 0) = true := bne_iff_ne.2 hck
      simp only [h4, ifB_true]
  exact bare_of rfl hgo
end Go.Proofs.YtflnfagdpoddiaaGreatDoor.Vm
set_option maxRecDepth 100000
set_option linter.unusedSimpArgs false
namespace Go.Proofs.YtflnfagdpoddiaaGreatDoor.Vm
open Go Go.VM Go.Proofs Go.Parse Go.Green

def lawS : List TypeId := [9, 5, 3, 26, 23, 24, 36]
theorem lawS_ok : ∀ t, inS lawS t = true → okTy Tryz.prog lawS t = true := by
  intro t ht
  have : t ∈ lawS := by
    obtain ⟨u, hu, e⟩ := List.any_eq_true.1 ht
    rw [← Nat.eq_of_beq_eq_true e]; exact hu
  exact List.all_eq_true.1 (show (lawS.all fun t => okTy Tryz.prog lawS t) = true by kernel_rfl) t this
theorem av_str {n t : Nat} {cs : List AV} (hu : Tryz.prog.underlying t = some .string) (h : AvOf Tryz.prog n t cs) : ∃ s, cs = [.str s] ∧ s.length ≤ maxLen := by
  cases n with
  | zero => cases h
  | succ n => simp only [AvOf, hu] at h; exact h
theorem av_u8 {n t : Nat} {cs : List AV} (hu : Tryz.prog.underlying t = some (.int .u8)) (h : AvOf Tryz.prog n t cs) : ∃ m : Nat, cs = [.int .u8 (m : Int)] := by
  cases n with
  | zero => cases h
  | succ n =>
    simp only [AvOf, hu] at h
    obtain ⟨m, rfl, h1, h2⟩ := h
    have h1 : (0 : Int) ≤ m := h1
    exact ⟨m.toNat, by rw [Int.toNat_of_nonneg h1]⟩
theorem av_int {n t : Nat} {cs : List AV} (hu : Tryz.prog.underlying t = some (.int .i64)) (h : AvOf Tryz.prog n t cs) : ∃ m : Int, cs = [.int .i64 m] := by
  cases n with
  | zero => cases h
  | succ n =>
    simp only [AvOf, hu] at h
    obtain ⟨m, rfl, _⟩ := h
    exact ⟨m, rfl⟩
theorem token_of {n : Nat} {cs : List AV} (h : AvOf Tryz.prog n 23 cs) : ∃ (m : Nat) (s : List UInt8), cs = [.int .u8 (m : Int), .str s] := by
  cases n with
  | zero => cases h
  | succ n =>
    simp only [AvOf, Tryz.underlying23] at h
    obtain ⟨a0, b0, rfl, h0, a1, b1, rfl, h1, rfl⟩ := h
    obtain ⟨x, rfl⟩ := av_u8 Tryz.underlying5 h0
    obtain ⟨s, rfl, _⟩ := av_str Tryz.underlying9 h1
    exact ⟨x, s, rfl⟩
theorem av_sl {n t e : Nat} {cs : List AV} (hu : Tryz.prog.underlying t = some (.slice e)) (h : AvOf Tryz.prog (n + 1) t cs) {b : Bool} (hst : isSt Tryz.prog e = b) {z : Nat} (hz : Tryz.prog.cellsOf e = z) :
    ∃ (x : AV) (L : List (List AV)), cs = [x] ∧ IsSl z x (L.map (mkV b)) ∧ (∀ a ∈ L, AvOf Tryz.prog n e a) ∧ bulkAs (L.map (mkV b)) + 1 ≤ bulkAs cs := by
  simp only [AvOf, hu] at h
  rcases h with rfl | rfl | ⟨L, rfl, hl, hL⟩
  · exact ⟨_, [], rfl, IsSl.nils, (fun _ h => by cases h), by rw [bulkAs_cons, List.map_nil, bulkAs_nil]; simp only [bulkA]; omega⟩
  · exact ⟨_, [], rfl, IsSl.emp, (fun _ h => by cases h), by rw [bulkAs_cons, List.map_nil, bulkAs_nil]; simp only [bulkA]; omega⟩
  · rw [hst, hz]
    refine ⟨_, L, rfl, IsSl.wide (by rw [List.length_map]; simpa [maxLen] using hl), hL, ?_⟩
    rw [bulkAs_cons, bulkAs_nil, bulkA_sl]
    exact Nat.le_refl _
theorem nodes_in : ∀ {L : List (List AV)}, (∀ a ∈ L, ∃ t, IsN t (.agg a) ∧ 4 * cntT t ≤ bulkAs a) → ∃ l, IsNs l (L.map (mkV true)) ∧ 4 * cntL l ≤ bulkAs (L.map (mkV true))
  | [], _ => ⟨[], IsNs.nil, by simp [cntL]⟩
  | a :: L, h => by
    obtain ⟨t, ht, hn⟩ := h a List.mem_cons_self
    obtain ⟨l, hl, hm⟩ := nodes_in (L := L) fun b hb => h b (List.mem_cons_of_mem _ hb)
    refine ⟨t :: l, IsNs.cons ht hl, ?_⟩
    simp only [cntL, List.map_cons, bulkAs_cons]
    have : bulkA (mkV true a) = bulkAs a := bulkA_agg a
    omega
theorem node_of : ∀ (n : Nat) {cs : List AV}, AvOf Tryz.prog n 26 cs → ∃ t, IsN t (.agg cs) ∧ 4 * cntT t ≤ bulkAs cs := by
  intro n
  induction n using Nat.strongRecOn with
  | _ n ih =>
    intro cs h
    cases n with
    | zero => cases h
    | succ n =>
      simp only [AvOf, Tryz.underlying26] at h
      obtain ⟨a0, b0, rfl, h0, a1, b1, rfl, h1, a2, b2, rfl, h2, rfl⟩ := h
      obtain ⟨k, rfl⟩ := av_u8 Tryz.underlying5 h0
      obtain ⟨tk, s, rfl⟩ := token_of h1
      cases n with
      | zero => cases h2
      | succ n =>
        obtain ⟨x, L, rfl, hx, hL, hb⟩ := av_sl Tryz.underlying24 h2 (b := true) (by kernel_rfl) (z := 4) (by kernel_rfl)
        obtain ⟨l, hl, hm⟩ := nodes_in fun a ha => ih n (by omega) (hL a ha)
        refine ⟨.mk k tk s l, by simp only [IsN]; exact ⟨x, _, rfl, hx, hl⟩, ?_⟩
        simp only [cntT, bulkAs_app, bulkAs_cons, bulkAs_nil, bulkA_int, bulkA_str] at hb ⊢
        omega
theorem path_of {n : Nat} {cs : List AV} (h : AvOf Tryz.prog n 36 cs) : ∃ (x : AV) (p : List Int), cs = [x] ∧ IsSl 1 x (p.map (AV.int .i64)) ∧ p.length ≤ bulkAs cs := by
  cases n with
  | zero => cases h
  | succ n =>
    obtain ⟨x, L, rfl, hx, hL, hb⟩ := av_sl Tryz.underlying36 h (b := false) (by kernel_rfl) (z := 1) (by kernel_rfl)
    have key : ∀ L : List (List AV), (∀ a ∈ L, AvOf Tryz.prog n 3 a) → ∃ p : List Int, L.map (mkV false) = p.map (AV.int .i64) ∧ p.length ≤ bulkAs (L.map (mkV false)) := by
      intro L
      induction L with
      | nil => exact fun _ => ⟨[], rfl, Nat.zero_le _⟩
      | cons a L ih =>
        intro h
        obtain ⟨m, rfl⟩ := av_int Tryz.underlying3 (h a List.mem_cons_self)
        obtain ⟨p, e, hp⟩ := ih fun b hb => h b (List.mem_cons_of_mem _ hb)
        refine ⟨m :: p, by rw [List.map_cons, e]; rfl, ?_⟩
        rw [List.map_cons, bulkAs_cons]
        have : bulkA (mkV false [AV.int .i64 m]) = 1 := bulkA_int _ _
        rw [List.length_cons]
        omega
    obtain ⟨p, e, hp⟩ := key L hL
    exact ⟨x, p, rfl, e ▸ hx, by omega⟩
end Go.Proofs.YtflnfagdpoddiaaGreatDoor.Vm
