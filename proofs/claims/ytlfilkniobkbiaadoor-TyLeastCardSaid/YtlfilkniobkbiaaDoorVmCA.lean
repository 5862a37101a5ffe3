/-
  A part of the proof.
-/
import Derived.Test.YtlfilkniobkbiaaDoorVmBJ
set_option maxRecDepth 1000000
set_option linter.unusedSimpArgs false
/- Types put in the place of variables. -/
namespace Go.Proofs.YtlfilkniobkbiaaDoor.Vm
open Go Go.VM Go.Proofs Go.Ty
section
variable {x1 x2 : AV} {vs : List Tx} {ls : List Ty} {fs : List AV}
/-- Is a name that of a variable in whose place a type is put? -/
theorem hit_ok {st : St} (h1 : OSl 1 x1 (vs.map AV.str)) (h2 : IsSl 2 x2 fs) (h3 : IsTs ls fs) (hv : vs.length ≤ 1000000) (nm : Tx) {st0 s : St} (w : Wv st0 s [(st.h, TTy, z2)] 2 TTy .nils []) : ∀ (r : List Tx) (i : Nat), vs.drop i = r →
    Goes (loopO (w20_L1 x1 x2 st nm) ([.int .i64 (i : Int)], s)) (fun c => match hit r (ls.drop i) nm with
      | some t => ∃ s' u, c = (1, [], s') ∧ CT t u ∧ Wv st0 s' [(st.h, TTy, [.str t.nm, u])] 2 TTy .nils []
      | none => c = (0, [], s)) := by
  intro r
  induction r with
  | nil =>
    intro i hd
    have hi := List.drop_eq_nil_iff.1 hd
    have e : hit [] (ls.drop i) nm = none := by cases ls.drop i <;> rfl
    rw [e]
    refine ⟨_, loopO_inr ?_, rfl⟩
    simp only [w20_L1, unc_cons, asI_int, un0_nil, h1.len, List.length_map, decide_eq_false (show ¬ (i : Int) < (vs.length : Int) by omega), ifB_false, bindO_ok, asB_bool]
  | cons v r ih =>
    intro i hd
    obtain ⟨hg, hr, hlt⟩ := drop_cons hd
    have hfl := h3.len
    by_cases hl : i < ls.length
    · rw [List.drop_eq_getElem_cons hl]
      simp only [hit]
      have hv1 : (vs.map AV.str)[i]? = some (.str v) := by rw [List.getElem?_map, hg]; rfl
      obtain ⟨v2, hv2, hV2⟩ := ts_at h3 hl
      obtain ⟨u, rfl, hu⟩ := isT_iff.1 hV2
      cases hb : v == nm with
      | true =>
        have hb' : (v == nm) = true := hb
        simp only [if_true]
        have main : Goes (w20_L1 x1 x2 st nm ([.int .i64 (i : Int)], s)) (fun q => ∃ c, q = .inr c ∧ ∃ s' u, c = (1, [], s') ∧ CT ls[i] u ∧ Wv st0 s' [(st.h, TTy, [.str ls[i].nm, u])] 2 TTy .nils []) := by
          simp only [w20_L1, unc_cons, asI_int, un0_nil, h1.len, h2.len, List.length_map, decide_eq_true (show (i : Int) < (vs.length : Int) by omega), decide_eq_true (show (i : Int) < (fs.length : Int) by omega), ifB_true, bindO_ok, asB_bool, h1.idx hv1, AV.cells, loadS_ip, List.drop_zero, takeO_one, asS_str, hb', h2.idx hv2, takeT2, unA_agg, hu.asOne]
          refine Goes.wstore [] w fun s' fx _ w' => ?_
          exact Goes.some ⟨_, rfl, s', u, rfl, hu, w'⟩
        obtain ⟨q, e, c, rfl, hq⟩ := main
        exact ⟨c, loopO_inr e, hq⟩
      | false =>
        have hb' : (v == nm) = false := hb
        simp only [Bool.false_eq_true, if_false]
        have e : w20_L1 x1 x2 st nm ([.int .i64 (i : Int)], s) = some (.inl ([.int .i64 ((i + 1 : Nat) : Int)], s)) := by
          simp only [w20_L1, unc_cons, asI_int, un0_nil, h1.len, h2.len, List.length_map, decide_eq_true (show (i : Int) < (vs.length : Int) by omega), decide_eq_true (show (i : Int) < (fs.length : Int) by omega), ifB_true, bindO_ok, asB_bool, h1.idx hv1, AV.cells, loadS_ip, List.drop_zero, takeO_one, asS_str, hb', ifB_false, letV_eq, wrapA1 (show i + 1 ≤ 9223372036854775807 by omega)]
        rw [loopO_inl e]
        exact ih (i + 1) hr
    · have hdn : ls.drop i = [] := List.drop_eq_nil_iff.2 (by omega)
      rw [hdn]
      simp only [hit]
      refine ⟨_, loopO_inr ?_, rfl⟩
      simp only [w20_L1, unc_cons, asI_int, un0_nil, h1.len, h2.len, List.length_map, decide_eq_true (show (i : Int) < (vs.length : Int) by omega), decide_eq_false (show ¬ (i : Int) < (fs.length : Int) by omega), ifB_true, ifB_false, bindO_ok, asB_bool]
/-- The parts, one by one. -/
theorem puts_ok {st0 : St} {a : Nat} {ca : List AV} (h1 : OSl 1 x1 (vs.map AV.str)) (h2 : IsSl 2 x2 fs) {nm : Tx} {lt : List Ty} {y : AV} {es : List AV} (hy : IsSl 2 y es) (hs : IsTs lt es) (hlen : lt.length ≤ 1000000)
    (IH : ∀ t ∈ lt, ∀ v, IsT t v → Goes ((orc vE).bare 20 [v, VM.strip x1, x2]) (IsT (putT vs ls t))) {c : Nat × Car} {s : St} (w : Wv st0 s [(c.2.2.h, TTy, [.str nm, .nils]), (a, TTy, ca)] 2 TTy .nils []) :
    Goes (loopO (w20_L2 x1 x2 y c) ([.int .i64 0], s)) (fun q => ∃ s v ws, q = (0, [], s) ∧ Wv st0 s [(c.2.2.h, TTy, [.str nm, v]), (a, TTy, ca)] 2 TTy v ws ∧ IsTs (putTs vs ls lt) ws) := by
  have hl := hs.len
  refine Goes.upto (n := lt.length) (I := fun i q => ∃ s v ws, q = ([.int .i64 (i : Int)], s) ∧ Wv st0 s [(c.2.2.h, TTy, [.str nm, v]), (a, TTy, ca)] 2 TTy v ws ∧ IsTs ((lt.take i).map (putT vs ls)) ws) ?_ ?_ lt.length 0 _ (by omega) ⟨s, .nils, [], rfl, w, IsTs.nil⟩
  · rintro i q hi ⟨s, v, ws, rfl, w, hw⟩
    have hq : decide ((i : Int) < (es.length : Int)) = true := decide_eq_true (by omega)
    obtain ⟨v1, hv1, hV1⟩ := ts_at hs hi
    obtain ⟨r, hk, hr⟩ := IH _ (List.getElem_mem hi) v1 hV1
    have hb := isT_bare hV1
    obtain ⟨u, rfl, hu⟩ := isT_iff.1 hV1
    obtain ⟨y3, rfl, hy3⟩ := isT_iff.1 hr
    have cc := fun {γ : Type} (st : St) (K : Kv γ) => callS_strip st K (args := [.agg [.str lt[i].nm, u], x1, x2]) rfl (by rw [List.map_cons, List.map_cons, List.map_cons, List.map_nil, hb.2, h2.strip]) (by rw [bares_cons, bares_cons, bares_cons, hb.1, h1.strip.bare, h2.bare]; rfl) hk
    have hwl := hw.len
    simp only [List.length_map, List.length_take] at hwl
    simp only [w20_L2, unc_cons, asI_int, un0_nil, hy.len, hq, ifB_true]
    refine Goes.vload1 List.mem_cons_self w.w (o := 1) rfl ?_
    simp only [hy.idx hv1, cells_agg, loadS_ip, List.drop_zero, takeT2, bindO_ok, unA_agg, unc_cons, asS_str, un0_nil, cc, apart_kept, Bool.and_self, Bool.and_true, chk_true, hy3.asOne, hy3.fit1]
    refine Goes.wapp w (by omega) (by omega) (by omega) fun v' s3 fx w3 => ?_
    refine Goes.one w3.o.one (Goes.one w3.o.one (Goes.wstoreF [] w3 (Nat.le_refl _) fun s4 _ _ w4 => ?_))
    simp only [letV_eq, wrapA1 (show i + 1 ≤ 9223372036854775807 by omega)]
    refine Goes.inl ⟨s4, v', _, rfl, w4, ?_⟩
    rw [take_snoc hi, List.map_append]
    exact isTs_snoc hw hr
  · rintro q ⟨s, v, ws, rfl, w, hw⟩
    rw [List.take_length] at hw
    have hq : decide (((lt.length : Nat) : Int) < (es.length : Int)) = false := decide_eq_false (by omega)
    simp only [w20_L2, unc_cons, asI_int, un0_nil, hy.len, hq, ifB_false]
    exact Goes.inr ⟨s, v, ws, rfl, w, by rw [putTs_map]; exact hw⟩
theorem putL1 (x1 x2 : AV) (nm : Tx) : g20_L1 x1 x2 nm = w20_L1 x1 x2 S0 nm := rfl
theorem putL2 (x1 x2 y : AV) (c : Nat × Car) : g20_L2 x1 x2 y c = w20_L2 x1 x2 y c := rfl
theorem put_ok (h1 : IsSl 1 x1 (vs.map AV.str)) (hvs : vs.length ≤ 1000000) (h2 : IsSl 2 x2 fs) (h3 : IsTs ls fs) : ∀ (n : Nat) (t : Ty), SizeOf.sizeOf t < n → szT t ≤ 1000000 → ∀ (v : AV), IsT t v → Goes ((orc vE).bare 20 [v, x1, x2]) (IsT (putT vs ls t)) := by
  intro n
  induction n with
  | zero => intro t h; omega
  | succ n ih =>
    intro t hn hsz v hv
    obtain ⟨nm, lt, y, es, rfl, rfl, hy, hs⟩ := isT_open hv
    simp only [Ty.mk.sizeOf_spec] at hn
    simp only [szT] at hsz
    have hll := szTs_len lt
    refine Goes.bare rfl (Goes.step (g20_eq _ _ _) ?_)
    simp only [g20, unA_agg, unc_cons, asS_str, un0_nil, hy.asOne, hy.fit1, putL1, putL2]
    have w0 : Wv S0 (St.mk 1 0 (Tr.node (some (VM.Obj.cells TTy z2)) Tr.leaf Tr.leaf)) [(S0.h, TTy, z2)] 2 TTy .nils [] := by
      refine ⟨⟨fun q hq => ?_, by show ([0] : List Nat).Nodup; decide, Nat.zero_le _⟩, Own.nils (Nat.zero_le _) _ _, (fun j hj => by obtain ⟨_, _, h⟩ := hj; cases h), ?_, fun q hq => Nat.zero_le _⟩
      · simp only [List.mem_cons, List.mem_nil_iff, or_false] at hq
        subst hq
        exact ⟨rfl, Nat.zero_le _⟩
      · exact Keeps.add S0 (VM.Obj.cells TTy z2) _
    have hh := hit_ok (.inl h1) h2 h3 hvs nm w0 vs 0 rfl
    rw [List.drop_zero] at hh
    refine Goes.bind hh ?_
    intro c hc
    simp only [putT]
    cases e : hit vs ls nm with
    | some t' =>
      rw [e] at hc
      obtain ⟨s', u, rfl, hu, w'⟩ := hc
      simp only [un0_nil, sel2_one]
      refine Goes.vload (a := 0) List.mem_cons_self w'.w rfl ?_
      simp only [unA_agg, unc_cons, asS_str, un0_nil]
      exact Goes.step (hu.frz _ _ _) (Goes.some hu.isT)
    | none =>
      rw [e] at hc
      subst hc
      simp only [un0_nil, sel2_zero]
      refine Goes.walloc w0 fun s1 e1 w1 => Goes.wstore [] w1 fun s2 _ _ w2 => ?_
      refine Goes.bind (puts_ok (ls := ls) (.inl h1) h2 hy hs (by omega) (fun t ht v hv => by
        rw [h1.strip]
        exact ih t (by have := List.sizeOf_lt_of_mem ht; omega) (by have := szT_mem ht; omega) v hv) w2) ?_
      rintro q ⟨s, v, ws, rfl, w, hw⟩
      simp only [un0_nil]
      refine Goes.vload List.mem_cons_self w.w rfl ?_
      simp only [unA_agg, unc_cons, asS_str, un0_nil]
      refine Goes.one w.o.one (Goes.wstore [(1, TTy, [.str nm, v])] w fun s5 _ _ w5 => ?_)
      refine Goes.vload (a := 0) (List.mem_cons_of_mem _ List.mem_cons_self) w5.w rfl ?_
      simp only [unA_agg, unc_cons, asS_str, un0_nil]
      obtain ⟨x', hx', hf⟩ := own_freeze w5.o
      refine Goes.step (frzType hx' hf _ _) (Goes.some ?_)
      simp only [IsT]
      exact ⟨x', ws, rfl, hx', hw⟩
theorem put_wide (h1 : OSl 1 x1 (vs.map AV.str)) (hvs : vs.length ≤ 1000000) (h2 : IsSl 2 x2 fs) (h3 : IsTs ls fs) {t : Ty} (hsz : szT t ≤ 1000000) {v : AV} (hv : CTo t v) {st : St} (hro : st.ro ≤ st.h) :
    Goes ((orc vE).wide 20 [.agg [.str t.nm, v], x1, x2] st) (fun r => ∃ u, r.1 = .agg [.str (putT vs ls t).nm, u] ∧ CTo (putT vs ls t) u ∧ Keeps st r.2 (fun _ => False)) := by
  obtain ⟨y, hyt, hfit⟩ := hv.fit1
  obtain ⟨nm, lt⟩ := t
  obtain ⟨es, hy, hs⟩ := hyt
  have hs : IsTs lt es := hs
  simp only [szT] at hsz
  have hll := szTs_len lt
  refine Goes.wide (Goes.step (w20_eq _ _ _ _) ?_)
  show Goes (w20 (.agg [.str nm, v]) x1 x2 st) _
  simp only [w20, unA_agg, unc_cons, asS_str, un0_nil, hv.asOne, hfit]
  refine Goes.walloc (Wv.start hro 2 TTy) fun s0 e0 w0 => ?_
  have hh := hit_ok (st := st) h1 h2 h3 hvs nm w0 vs 0 rfl
  rw [List.drop_zero] at hh
  refine Goes.bind hh ?_
  intro c hc
  simp only [putT]
  cases e : hit vs ls nm with
  | some t' =>
    rw [e] at hc
    obtain ⟨s', u, rfl, hu, w'⟩ := hc
    simp only [un0_nil, sel2_one]
    refine Goes.vload (a := st.h) List.mem_cons_self w'.w rfl ?_
    simp only [unA_agg, unc_cons, asS_str, un0_nil]
    exact Goes.some ⟨u, rfl, hu.o, w'.k⟩
  | none =>
    rw [e] at hc
    subst hc
    simp only [un0_nil, sel2_zero]
    refine Goes.walloc w0 fun s1 e1 w1 => Goes.wstore [] w1 fun s2 _ _ w2 => ?_
    refine Goes.bind (puts_ok (ls := ls) h1 h2 hy hs (by omega) (fun t ht v hv => put_ok h1.strip hvs h2 h3 _ t (Nat.lt_succ_self _) (by have := szT_mem ht; omega) v hv) w2) ?_
    rintro q ⟨s, v, ws, rfl, w, hw⟩
    simp only [un0_nil]
    refine Goes.vload (a := s0.h) List.mem_cons_self w.w rfl ?_
    simp only [unA_agg, unc_cons, asS_str, un0_nil]
    refine Goes.one w.o.one (Goes.wstore [(s0.h, TTy, [.str nm, v])] w fun s5 _ _ w5 => ?_)
    refine Goes.vload (a := st.h) (List.mem_cons_of_mem _ List.mem_cons_self) w5.w rfl ?_
    simp only [unA_agg, unc_cons, asS_str, un0_nil]
    exact Goes.some ⟨v, rfl, ⟨ws, own_OSl w5.o, hw⟩, w5.k⟩
end
end Go.Proofs.YtlfilkniobkbiaaDoor.Vm
/- The law TyLeast. -/
namespace Go.Proofs.YtlfilkniobkbiaaDoor.Vm
open Go Go.VM Go.Proofs Go.Ty
mutual
theorem IsT.rf : ∀ {t : Ty} {v : AV}, IsT t v → Rf (2 * szT t) v
  | .mk nm l, v, h => by
    simp only [IsT] at h
    obtain ⟨x, es, rfl, hx, hs⟩ := h
    have he := IsTs.rf hs
    have hxr : Rf (2 * szTs l + 1) x := by
      rcases hx.2 with ⟨rfl | rfl, rfl⟩ | rfl | rfl
      · exact rf_nils.mono (by omega)
      · exact rf_es.mono (by omega)
      · exact rf_sl he
      · exact rf_sl he
    simp only [szT]
    refine (rf_agg (d := 2 * szTs l + 1) fun c hc => ?_).mono (by omega)
    simp only [List.mem_cons, List.mem_nil_iff, or_false] at hc
    rcases hc with rfl | rfl
    · exact (rf_str nm).mono (by omega)
    · exact hxr
theorem IsTs.rf : ∀ {l : List Ty} {es : List AV}, IsTs l es → ∀ c ∈ es, Rf (2 * szTs l) c
  | [], _, h, c, hc => by simp only [IsTs] at h; subst h; cases hc
  | t :: l, _, h, c, hc => by
    simp only [IsTs] at h
    obtain ⟨v, vs, rfl, h1, h2⟩ := h
    simp only [szTs]
    rcases List.mem_cons.1 hc with rfl | hc
    · exact (IsT.rf h1).mono (by omega)
    · exact (IsTs.rf h2 c hc).mono (by omega)
end
theorem CT.rf {t : Ty} {x : AV} (h : CT t x) : ∀ c ∈ [AV.str t.nm, x], Rf (2 * szT t) c := fun c hc => by
  obtain ⟨es, hx, hs⟩ := h
  have he := IsTs.rf hs
  have hz : 2 * szTs t.l + 2 ≤ 2 * szT t := by
    obtain ⟨n, l⟩ := t
    simp only [szT, Ty.l]; omega
  simp only [List.mem_cons, List.mem_nil_iff, or_false] at hc
  rcases hc with rfl | rfl
  · exact (rf_str _).mono (by omega)
  · rcases hx.2 with ⟨rfl | rfl, rfl⟩ | rfl | rfl
    · exact rf_nils.mono (by omega)
    · exact rf_es.mono (by omega)
    · exact (rf_sl he).mono (by omega)
    · exact (rf_sl he).mono (by omega)
/-- put, whatever its argument's slices. -/
theorem call_put {x1 x2 : AV} {vs : List Tx} {ls : List Ty} {fs : List AV} (h1 : OSl 1 x1 (vs.map AV.str)) (hvs : vs.length ≤ 1000000) (h2 : IsSl 2 x2 fs) (h3 : IsTs ls fs) {t : Ty} (hsz : szT t ≤ 1000000) {v : AV} (hv : CTo t v) {st : St} (hro : st.ro ≤ st.h) {β : Type} {Q : β → Prop} {K : Kv β}
    (g : ∀ u s fx, CTo (putT vs ls t) u → Keeps st s (fun _ => False) → s.ro ≤ s.h → (∀ i t cs d, st.get i = .ok (.cells t cs) → (∀ c ∈ cs, Rf d c) → d ≤ 1000000000000000000 → apart fx ⟨[i], .kept⟩ = true) → Goes (K (.agg [.str (putT vs ls t).nm, u]) s fx) Q) :
    Goes (callS (orc vE) 20 [.agg [.str t.nm, v], x1, x2] st K) Q := by
  have hs1 := h1.strip
  by_cases hb : VM.bare (.agg [.str t.nm, v]) = true
  · have hc : CT t v := by
      obtain ⟨es, q1, q2⟩ := hv
      rcases q1 with q1 | ⟨_, k, rfl⟩
      · exact ⟨es, q1, q2⟩
      · cases (show false = true from hb)
    obtain ⟨r, e, hr⟩ := put_ok hs1 hvs h2 h3 _ t (Nat.lt_succ_self _) hsz _ hc.isT
    obtain ⟨u, rfl, hu⟩ := isT_iff.1 hr
    refine Goes.step (callS_strip st K rfl (by rw [List.map_cons, List.map_cons, List.map_cons, List.map_nil, hc.b.2, h2.strip]) (by rw [bares_cons, bares_cons, bares_cons, hb, hs1.bare, h2.bare]; rfl) e) ?_
    exact g u st q0 hu.o (Keeps.refl _ _) hro (fun _ _ _ _ _ _ _ => rfl)
  · obtain ⟨⟨r, s⟩, e, u, hr, hu, k⟩ := put_wide h1 hvs h2 h3 hsz hv hro
    have hr : r = .agg [.str (putT vs ls t).nm, u] := hr
    subst hr
    have k : Keeps st s (fun _ => False) := k
    have hnb : (bares ([.agg [.str t.nm, v], x1, x2].map VM.strip) && !vE.full 20) = false := by
      rw [List.map_cons, bares_cons, show VM.strip (.agg [.str t.nm, v]) = .agg [.str t.nm, v] from rfl, Bool.eq_false_iff.2 hb]; rfl
    refine Goes.step (callS_wide K rfl hnb e) ?_
    refine g u s _ hu k (by rw [k.ro]; exact Nat.le_trans hro k.h) fun i t cs d h1 h2 hd => ?_
    show ([i].all (sameAt st s)) = true
    rw [List.all_cons, sameAt_of h1 (k.old _ _ (fun f => f) h1) h2 hd]; rfl
theorem hatchT {st : St} {nm : Nat} {t : TypeId} {z : List AV} (hg : st.get nm = .ok .egg) (hro : st.ro ≤ nm) {β : Type} (K : Kv β) : hatchS t z nm st K = K (.mp nm 0) (st.put nm (.cells t z)) ⟨[nm], .wrote nm (.cells t z)⟩ := by
  have h : st.ro.ble nm = true := Nat.ble_eq_true_of_le hro
  simp only [hatchS, hatchO, hg, wroteO, h, outS, bindO_ok]
theorem least_loop {x : AV} {l : List Ty} {es : List AV} (hx : IsSl 2 x es) (hl : IsTs l es) {st : St} (hro : st.ro ≤ st.h) : Goes (loopO (g5_L1 x) ([.bool false, .int .i64 0], st)) (fun c => (∃ s, c = (1, [.bool true], s)) ∨ (∃ s, c = (0, [.bool false], s) ∧ s.ro ≤ s.h ∧ ∀ t ∈ l, mayT t = true)) := by
  have hlen := hl.len
  have hll := slenT hx
  refine Goes.upto (n := l.length) (I := fun i c => ∃ s, c = ([.bool false, .int .i64 (i : Int)], s) ∧ s.ro ≤ s.h ∧ ∀ t ∈ l.take i, mayT t = true) ?_ ?_ l.length 0 _ (by omega) ⟨st, rfl, hro, fun t h => by simp at h⟩
  · rintro i c hi ⟨s, rfl, hs, hm⟩
    have hq : decide ((i : Int) < (es.length : Int)) = true := decide_eq_true (by omega)
    obtain ⟨v1, hv1, hV1⟩ := ts_at hl hi
    have hb := isT_bare hV1
    have cm := fun {γ : Type} (st : St) (K : Kv γ) => callT1 hb rfl (may_prog hV1) st K
    have ht : l.take (i + 1) = l.take i ++ [l[i]] := take_snoc hi
    have hrv := rvars_ok _ l[i] (Nat.lt_succ_self _) v1 s .nils [] hV1 (Own.nils hs _ _)
    obtain ⟨x1, rfl, hx1⟩ := isT_iff.1 hV1
    simp only [g5_L1, unc_cons, asI_int, asB_bool, un0_nil, hx.len, hq, ifB_true, hx.idx hv1, cells_agg, loadS_ip, List.drop_zero, takeT2, bindO_ok, unA_agg, asS_str, cm]
    refine Goes.bind (R := fun c => ∃ b s', c = ([.bool b], s') ∧ (b = false → s'.ro ≤ s'.h ∧ mayT l[i] = true)) ?_ ?_
    · cases hmi : mayT l[i] with
      | false => simp only [Bool.not_false, ifB_true]; exact Goes.some ⟨true, s, rfl, fun h => by cases h⟩
      | true =>
        have hz := (may_form hmi).2
        simp only [Bool.not_true, ifB_false, hx.idx hv1, cells_agg, loadS_ip, List.drop_zero, takeT2, bindO_ok, unA_agg, unc_cons, asS_str, un0_nil]
        refine Goes.callW (hrv (by simp; omega)) rfl (by simp only [Bool.and_false, show vE.full 19 = true from rfl, Bool.not_true]) ?_
        intro v s' ho
        simp only [own_len ho]
        exact Goes.some ⟨_, s', rfl, fun _ => ⟨ho.1, by simp⟩⟩
    · rintro c ⟨b, s', rfl, hb'⟩
      simp only [unc_cons, asB_bool, un0_nil]
      cases b with
      | true => simp only [ifB_true]; exact Goes.inr (.inl ⟨s', rfl⟩)
      | false =>
        obtain ⟨h1, h2⟩ := hb' rfl
        simp only [ifB_false, letV_eq, wrapA1 (show i + 1 ≤ 9223372036854775807 by omega)]
        refine Goes.inl ⟨s', rfl, h1, fun t h => ?_⟩
        rw [ht] at h
        rcases List.mem_append.1 h with h | h
        · exact hm t h
        · rw [List.mem_singleton] at h; rw [h]; exact h2
  · rintro c ⟨s, rfl, hs, hm⟩
    have hq : decide (((l.length : Nat) : Int) < (es.length : Int)) = false := decide_eq_false (by omega)
    rw [List.take_length] at hm
    simp only [g5_L1, unc_cons, asI_int, asB_bool, un0_nil, hx.len, hq, ifB_false]
    exact Goes.inr (.inr ⟨s, rfl, hs, hm⟩)
theorem law_least {a b : Ty} {u v x : AV} {l : List Ty} {es : List AV} (hu : IsT a u) (hv : IsT b v) (hx : IsSl 2 x es) (hl : IsTs l es) : (orc vE).bare 5 [u, v, x] = some (.bool true) := by
  obtain ⟨va, rfl, ha⟩ := isT_iff.1 hu
  obtain ⟨vb, rfl, hb⟩ := isT_iff.1 hv
  have hlen := hl.len
  have hab : IsSl 2 (.sl 2 [.agg [.str a.nm, va], .agg [.str b.nm, vb]] .shut) [.agg [.str a.nm, va], .agg [.str b.nm, vb]] := IsSl.shut (Nat.le_of_ble_eq_true rfl)
  obtain ⟨f1, hf1⟩ := few_ok hab (IsTs.cons hu (IsTs.cons hv IsTs.nil))
  obtain ⟨f2, hf2⟩ := few_ok hx hl
  have caw := fun {γ : Type} (st : St) (K : Kv γ) => callS_bare (f := 9) st K rfl rfl rfl (orc_bare awake_run)
  have cf1 := fun {γ : Type} (st : St) (K : Kv γ) => callS_bare (f := 14) st K rfl (by rw [List.map_cons, List.map_nil, hab.strip]) (by rw [bares_cons, hab.bare]; rfl) hf1
  have cf2 := fun {γ : Type} (st : St) (K : Kv γ) => callS_bare (f := 14) st K rfl (by rw [List.map_cons, List.map_nil, hx.strip]) (by rw [bares_cons, hx.bare]; rfl) hf2
  have cma := fun {γ : Type} (st : St) (K : Kv γ) => callT1 ha.b rfl (may_prog hu) st K
  have cmb := fun {γ : Type} (st : St) (K : Kv γ) => callT1 hb.b rfl (may_prog hv) st K
  refine Goes.eq (Goes.bare rfl (Goes.step (g5_eq _ _ _) ?_))
  simp only [g5, unA_agg, unc_cons, asS_str, un0_nil, ha.asOne, ha.fit1, hb.asOne, hb.fit1, hx.len, cf1, cf2, caw, cma, cmb, asB_bool]
  refine Goes.bind (R := fun c => (∃ s, c = ([.bool true], s)) ∨ (c = ([.bool false], S0) ∧ l.length ≤ 9)) ?_ ?_
  · by_cases h9 : l.length ≤ 9
    · rw [decide_eq_false (show ¬ (es.length : Int) > 9 by omega)]
      simp only [ifB_false]
      cases f1 with
      | false => simp only [Bool.not_false, ifB_true]; exact Goes.some (.inl ⟨_, rfl⟩)
      | true =>
        simp only [Bool.not_true, ifB_false]
        cases f2 with
        | false => simp only [Bool.not_false, ifB_true]; exact Goes.some (.inl ⟨_, rfl⟩)
        | true => simp only [Bool.not_true, ifB_false]; exact Goes.some (.inr ⟨rfl, h9⟩)
    · rw [decide_eq_true (show (es.length : Int) > 9 by omega)]
      simp only [ifB_true]
      exact Goes.some (.inl ⟨_, rfl⟩)
  rintro c (⟨s, rfl⟩ | ⟨rfl, h9⟩)
  · simp only [unc_cons, asB_bool, un0_nil, ifB_true]
    exact Goes.some rfl
  simp only [unc_cons, asB_bool, un0_nil, ifB_false]
  refine Goes.bind (R := fun c => c = ([.bool (!(mayT a && mayT b))], S0)) ?_ ?_
  · cases mayT a with
    | false => simp only [Bool.not_false, ifB_true, Bool.false_and]; exact Goes.some rfl
    | true => simp only [Bool.not_true, ifB_false, Bool.true_and]; exact Goes.some rfl
  rintro c rfl
  simp only [unc_cons, asB_bool, un0_nil]
  cases hm : (mayT a && mayT b) with
  | false => simp only [Bool.not_false, ifB_true]; exact Goes.some rfl
  | true =>
    have hm2 := hm
    simp only [Bool.and_eq_true] at hm2
    obtain ⟨fa, za⟩ := may_form hm2.1
    obtain ⟨fb, zb⟩ := may_form hm2.2
    have hva := (varsT_len (SizeOf.sizeOf a + 1)).1 a (Nat.lt_succ_self _) []
    have hvb := (varsT_len (SizeOf.sizeOf b + 1)).1 b (Nat.lt_succ_self _) (varsT [] a)
    have hvs := varsT_var b (varsT [] a) (varsT_var a [] (fun _ h => by cases h))
    simp only [List.length_nil] at hva
    simp only [Bool.not_true, ifB_false]
    refine Goes.callW (rvars_ok _ a (Nat.lt_succ_self _) _ S0 .nils [] hu (Own.nils (Nat.le_refl _) _ _) (by simp; omega)) rfl (by simp only [Bool.and_false, show vE.full 19 = true from rfl, Bool.not_true]) ?_
    intro v1 s1 o1
    rw [chk_of (show (apart ⟨[], .all S0 s1⟩ ⟨[], .kept⟩ && true) = true from rfl)]
    refine Goes.callW (rvars_ok _ b (Nat.lt_succ_self _) _ s1 v1 (varsT [] a) hv o1 (by omega)) rfl (by simp only [Bool.and_false, show vE.full 19 = true from rfl, Bool.not_true]) ?_
    intro v2 s2 o2
    have hro2 : s2.ro ≤ s2.h := o2.1
    have hO := own_OSl o2
    have o2 : Own s2 1 sT v2 ((varsT (varsT [] a) b).map AV.str) := o2
    generalize varsT (varsT [] a) b = vs at *
    refine Goes.bind (least_loop hx hl hro2) ?_
    rintro c (⟨s, rfl⟩ | ⟨s, rfl, hro, hmay⟩)
    · simp only [unc_cons, asB_bool, un0_nil, sel2_one]
      exact Goes.some rfl
    simp only [unc_cons, asB_bool, un0_nil, sel2_zero]
    refine Goes.lets (Goes.lets ?_)
    -- the names of what is made later
    have e1 : ((s.add .egg).add .egg).get s.h = .ok .egg := St.get_add_old St.get_add_new
    have e2 : ((s.add .egg).add .egg).get (s.h + 1) = .ok .egg := St.get_add_new (st := s.add .egg)
    have hrE : ((s.add VM.Obj.egg).add VM.Obj.egg).ro ≤ s.h := hro
    have hroE : ((s.add VM.Obj.egg).add VM.Obj.egg).ro ≤ ((s.add VM.Obj.egg).add VM.Obj.egg).h := by
      show s.ro ≤ s.h + 1 + 1; omega
    generalize (s.add VM.Obj.egg).add VM.Obj.egg = s3 at *
    have hfl : ∀ t ∈ l, szT t ≤ 512 := fun t ht => (may_form (hmay t ht)).2
    obtain ⟨ra, ea, hra⟩ := put_ok hO.strip (by omega) hx hl _ a (Nat.lt_succ_self _) (by omega) _ hu
    obtain ⟨rb, eb, hrb⟩ := put_ok hO.strip (by omega) hx hl _ b (Nat.lt_succ_self _) (by omega) _ hv
    obtain ⟨ua, rfl, hua⟩ := isT_iff.1 hra
    obtain ⟨ub, rfl, hub⟩ := isT_iff.1 hrb
    have cpa := fun {γ : Type} (st : St) (K : Kv γ) => callS_strip st K (args := [.agg [.str a.nm, va], v2, x]) rfl (by rw [List.map_cons, List.map_cons, List.map_cons, List.map_nil, ha.b.2, hx.strip]) (by rw [bares_cons, bares_cons, bares_cons, ha.b.1, hO.strip.bare, hx.bare]; rfl) ea
    have cpb := fun {γ : Type} (st : St) (K : Kv γ) => callS_strip st K (args := [.agg [.str b.nm, vb], v2, x]) rfl (by rw [List.map_cons, List.map_cons, List.map_cons, List.map_nil, hb.b.2, hx.strip]) (by rw [bares_cons, bares_cons, bares_cons, hb.b.1, hO.strip.bare, hx.bare]; rfl) eb
    have q1 : ∀ (i : Nat) o, apart q0 ⟨[i], .wrote i o⟩ = true := fun _ _ => rfl
    have q2 : ∀ (i : Nat) o, apart ⟨[], .kept⟩ ⟨[i], .wrote i o⟩ = true := fun _ _ => rfl
    have q3 : ∀ o o', apart ⟨[s.h], .wrote s.h o⟩ ⟨[s.h + 1], .wrote (s.h + 1) o'⟩ = true := fun o o' => by
      show (!Nat.beq s.h (s.h + 1) && ![s.h + 1].contains s.h && ![s.h].contains (s.h + 1)) = true
      have : Nat.beq s.h (s.h + 1) = false := by
        cases hh : Nat.beq s.h (s.h + 1) with
        | false => rfl
        | true => have := Nat.eq_of_beq_eq_true hh; omega
      rw [this]
      simp
    have q4 : apart q0 ⟨[], .kept⟩ = true := rfl
    simp only [cpa, cpb, unA_agg, unc_cons, asS_str, un0_nil, q4, Bool.and_self, Bool.and_true, chk_true]
    have h1 := fun {β : Type} (K : Kv β) => hatchT (t := TTy) (z := z2) e1 hrE K
    refine Goes.step (h1 _) ?_
    rw [chk_of (by simp only [q1, q2, Bool.and_self, Bool.and_true])]
    have k4 : Keeps s3 (s3.put s.h (.cells TTy z2)) (· = s.h) := Keeps.put rfl
    have g4 : (s3.put s.h (.cells TTy z2)).get s.h = .ok (.cells TTy z2) := St.get_put_same (St.get_ok.1 e1).1
    have e2' : (s3.put s.h (.cells TTy z2)).get (s.h + 1) = .ok .egg := k4.old _ _ (by omega) e2
    have r4 : (s3.put s.h (.cells TTy z2)).ro ≤ s.h := hrE
    have ro4 : (s3.put s.h (.cells TTy z2)).ro ≤ (s3.put s.h (.cells TTy z2)).h := hroE
    generalize s3.put s.h (.cells TTy z2) = s4 at *
    have h2 := fun {β : Type} (K : Kv β) => hatchT (t := TTy) (z := z2) e2' (by omega) K
    refine Goes.step (h2 _) ?_
    rw [chk_of (by simp only [q1, q2, q3, Bool.and_self, Bool.and_true])]
    have k5 : Keeps s4 (s4.put (s.h + 1) (.cells TTy z2)) (· = s.h + 1) := Keeps.put rfl
    have w5 : Wx (fun _ => False) s4 (s4.put (s.h + 1) (.cells TTy z2)) [] → True := fun _ => trivial
    have v5 : Vw (s4.put (s.h + 1) (.cells TTy z2)) [(s.h, TTy, z2), (s.h + 1, TTy, z2)] := by
      refine ⟨fun q hq => ?_, by simp, ro4⟩
      simp only [List.mem_cons, List.mem_nil_iff, or_false] at hq
      rcases hq with rfl | rfl
      · exact ⟨k5.old _ _ (by omega) g4, r4⟩
      · exact ⟨St.get_put_same (St.get_ok.1 e2').1, Nat.le_succ_of_le r4⟩
    generalize s4.put (s.h + 1) (.cells TTy z2) = s5 at *
    simp only [hua.asOne, hub.asOne]
    refine Goes.vstore [] v5 fun s6 _ _ v6 => ?_
    refine Goes.vstore [(s.h, TTy, [.str (putT vs l a).nm, ua])] v6 fun s7 _ _ v7 => ?_
    have g7a := v7.get (a := s.h) List.mem_cons_self
    have g7b := v7.get (a := s.h + 1) (List.mem_cons_of_mem _ List.mem_cons_self)
    have ro7 := v7.ro
    have zput : szT (putT vs l a) ≤ 512 * 512 := by
      have h1 := putT_sz (vs := vs) (l := l) (m := 512) (by omega) hfl a
      have h2 := Nat.mul_le_mul_right 512 za
      omega
    refine Goes.bind (R := fun c => ∃ d, c = ([.bool (d || !sameT (putT vs l a) (putT vs l b))], s7)) ?_ ?_
    · simp only [hO.len, List.length_map]
      by_cases hlt : (es.length : Int) < (vs.length : Int)
      · rw [decide_eq_true hlt]
        simp only [ifB_true]
        exact Goes.some ⟨true, rfl⟩
      · rw [decide_eq_false hlt]
        simp only [ifB_false, loadS_mp g7a, loadS_mp g7b, List.drop_zero, takeT2, bindO_ok, unA_agg, unc_cons, asS_str, un0_nil]
        obtain ⟨fx, hs⟩ := call_same hua.o hub.o s7
        refine Goes.step (hs _) ?_
        simp only [asB_bool]
        exact Goes.some ⟨false, rfl⟩
    rintro c ⟨d, rfl⟩
    simp only [unc_cons, asB_bool, un0_nil]
    cases hds : (d || !sameT (putT vs l a) (putT vs l b)) with
    | true => simp only [ifB_true]; exact Goes.some rfl
    | false =>
      simp only [Bool.or_eq_false_iff, Bool.not_eq_false'] at hds
      have heq := (sameT_iff _ _).1 hds.2
      simp only [ifB_false]
      refine Goes.callW (new_ok ro7) rfl (by simp only [Bool.and_false, show vE.full 15 = true from rfl, Bool.not_true]) ?_
      rintro v8 s8 ⟨T, M, rfl, tb8, k8, ro8, hT8, hM8⟩
      have tg : TbG (vlT a ++ vlT b) [] := ⟨.nil, fun _ _ h => by simp [fnd] at h, fun _ h => by cases h⟩
      have hU : (vlT a ++ vlT b).length ≤ 1000000000 := by
        have h1 := vlT_len a
        have h2 := vlT_len b
        rw [List.length_append]; omega
      refine Goes.callW (Alike_ok tb8 tg hU ro8 (fun _ v hv => List.mem_append_left _ (vlT_in a hv)) (fun _ v hv => List.mem_append_right _ (vlT_in b hv)) ha hb) rfl (by simp [bares_cons, bares, VM.bare.bareAll, VM.bare, VM.strip]) ?_
      rintro v9 s9 ⟨e, B', hal, rfl, tb9, tg9, _, k9⟩
      unfold AlkO at hal
      rw [if_pos hm] at hal
      obtain ⟨k, B1, D, hk, hB1⟩ := hal
      obtain ⟨he0, hgB, hform, hput⟩ := least_all hvs fa fb heq hk
      subst he0
      rw [if_pos rfl] at hB1
      subst hB1
      have ro9 : s9.ro ≤ s9.h := by rw [k9.ro]; exact Nat.le_trans ro8 k9.h
      have g9a : s9.get s.h = .ok (.cells TTy [.str (putT vs l a).nm, ua]) := by
        have h8 := k8.old _ _ (fun f => f) g7a
        refine k9.old _ _ (fun e => ?_) h8
        rcases e with e | ⟨_, _, _, _, e⟩
        · obtain ⟨ms, h1, _⟩ := tb8.m
          rw [← e, h8] at h1; cases h1
        · rw [h8] at e; cases e
      simp only [asI_int, ifB_bne, if_true]
      refine Goes.fullv tb9.toTbR tg9 ro9 ha fun sA s10 vz hz g10 _ k10 ro10 => ?_
      have g10a := k10.old _ _ (fun f => f) g9a
      refine Goes.bind (R := fun c => ∃ s, c = ([.bool true], s)) ?_ ?_
      · unfold fullO at hz g10 ⊢
        rw [if_pos hm2.1] at hz g10 ⊢
        by_cases hsz : szT (subT (fl B') a) ≤ 512
        · rw [if_pos hsz] at hz g10 ⊢
          simp only [show ((0 : Int) == 40) = false from rfl, show ((0 : Int) == 0) = true from rfl, ifB_false, ifB_true, loadS_mp g10, List.drop_zero, takeT2, bindO_ok, unA_agg, unc_cons, asS_str, un0_nil]
          refine call_put hO (by omega) hx hl (Nat.le_trans hsz (by omega)) hz ro10 fun u s11 fx hu11 k11 ro11 hap => ?_
          have g11a := k11.old _ _ (fun f => f) g10a
          simp only [unA_agg, unc_cons, asS_str, un0_nil, loadS_mp g11a, List.drop_zero, takeT2, bindO_ok]
          rw [chk_of (by rw [hap _ _ _ _ g10a hua.rf (by omega)])]
          obtain ⟨fx2, hs2⟩ := call_same hu11 hua.o s11
          refine Goes.step (hs2 _) ?_
          rw [hput, (sameT_iff _ _).2 rfl]
          simp only [asB_bool]
          exact Goes.some ⟨_, rfl⟩
        · rw [if_neg hsz]
          simp only [show ((40 : Int) == 40) = true from rfl, ifB_true]
          exact Goes.some ⟨_, rfl⟩
      · rintro c ⟨s', rfl⟩
        simp only [unc_cons, asB_bool, un0_nil]
        exact Goes.some rfl
end Go.Proofs.YtlfilkniobkbiaaDoor.Vm
