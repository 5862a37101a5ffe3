/-
  (A part of the proof: GreenFound, GreenArg.)
-/
import Derived.Test.YtflnfagdpoddiaaGreatDoorVmCC
import Derived.Test.YtflnfagdpoddiaaGreatDoorVmCB
import Derived.Test.YtflnfagdpoddiaaGreatDoorVmBI
/- The law: the leaf of a byte. -/
set_option maxRecDepth 100000
set_option linter.unusedSimpArgs false
namespace Go.Proofs.YtflnfagdpoddiaaGreatDoor.Vm
open Go Go.VM Go.Proofs Go.Lex Go.Parse Go.Green

theorem plen {x : AV} {p : List Int} (hx : IsSl 1 x (p.map (AV.int .i64))) {γ : Type} (K : Nat → Option γ) : lenS x K = K p.length := by rw [hx.len, List.length_map]
theorem wt_small {t : T} (h : wt t < 300) : Small t ∧ cntT t ≤ 800000 := by
  have := wt_bound t h
  exact ⟨⟨by omega, by omega⟩, by omega⟩
theorem law_found {t : T} (hc : cntT t ≤ 900000) {v : AV} (hv : IsN t v) (a : Int) : (orc vE).bare 5 [v, .int .i64 a] = some (.bool true) := by
  have cw := fun {β : Type} (st : St) (K : Kv β) => callT hv rfl (weight_ok t hc v hv) st K
  obtain ⟨v1, e1, hv1⟩ := given_ok t hc v hv
  have cg := fun {β : Type} (st : St) (K : Kv β) => callT hv rfl e1 st K
  have hgo : bareS vE 5 [v, .int .i64 a] = some (.bool true) := by
    refine (g5_eq _ _).trans ?_
    by_cases h1 : 300 ≤ wt t
    · obtain ⟨k, tk, tx, l, x, es, rfl, rfl, hx, hs⟩ := isN_open hv
      have q : ((wt (.mk k tk tx l) : Nat) : Int) ≥ 300 := by omega
      simp only [g5, unA_agg, unc_cons, asI_int, asS_str, asB_bool, un0_nil, hx.asOne, hx.fit1, call_works, Bool.not_true, ifB_false, cw, decide_eq_true q, bindO_ok, ifB_true]
    have q : ¬ ((wt t : Nat) : Int) ≥ 300 := by omega
    obtain ⟨hsm, hc8⟩ := wt_small (t := t) (by omega)
    have ct := fun {β : Type} (st : St) (K : Kv β) => callT hv1 rfl (hsm.text hv1) st K
    have find : ∀ b : Int, ∃ x, IsSl 1 x ((findV t b).1.map (AV.int .i64)) ∧ ∀ {β : Type} (st : St) (K : Kv β), callS (orc vE) 23 [v1, .int .i64 b] st K = K (.tup [x, .int .i64 (findV t b).2]) st q0 := fun b => by
      obtain ⟨x, e, hx⟩ := Find_ok hsm hc8 hv1 b
      exact ⟨x, hx, fun st K => callTi hv1 rfl e st K⟩
    obtain ⟨x0, i0, f0⟩ := find a
    obtain ⟨k, tk, tx, l, x, es, rfl, rfl, hx, hs⟩ := isN_open hv
    obtain ⟨k1, tk1, tx1, l1', x1, es1, ii, hv1', hx1, hs1⟩ := isN_open hv1
    subst hv1'
    obtain ⟨s1, g1, ka, n1, fx, es⟩ := lvN (St.mk 0 0 Tr.leaf) (k1 : Int) (tk1 : Int) tx1 x1 (Nat.le_refl _)
    have r1 : s1.ro = 0 := ka.ro
    simp only [g5, unA_agg, unc_cons, asI_int, asS_str, asB_bool, un0_nil, hx.asOne, hx.fit1, call_works, Bool.not_true, ifB_false, cw, decide_eq_false q, bindO_ok, cg, letSt_eq, hx1.asOne]
    simp only [es, loadS_mp g1, List.drop_zero, takeO4, bindO_ok, unA_agg, unc_cons, asI_int, asS_str, un0_nil, f0, unT_tup, nthS_zero, nthS_one]
    cases hf : findG (.mk k tk tx l) a with
    | none =>
      have hv : findV (.mk k tk tx l) a = ([], 1) := by simp only [findV, hf]
      rw [hv] at i0
      simp only [hv, show ((1 : Int) != 0) = true from rfl, ifB_true, ct, asS_str, plen i0]
      rcases findG_none hf with h | h
      · simp only [ifB_decide, if_pos h, bindO_ok, unc_cons, asB_bool, un0_nil]
        rfl
      · have h' : ¬ a < 0 := by omega
        have h2 : a ≥ ((textG (.mk k tk tx l)).length : Int) := h
        simp only [ifB_decide, if_neg h', if_pos h2, bindO_ok, unc_cons, asB_bool, un0_nil]
        rfl
    | some p =>
      obtain ⟨ha, d1, u, d2, hlv, hn1, hn2, hu, hat⟩ := findG_some hf
      have hv : findV (.mk k tk tx l) a = (toI p, 0) := by simp only [findV, hf]
      rw [hv] at i0
      have hR : atR (toI p) (.mk k tk tx l) = (u, sumL d1, true) := by simp only [atR, hat]
      obtain ⟨w, ew, hw⟩ := At_ok hsm hc8 hv1 i0
      have eF := Full_ok hsm hc8 hv1 i0
      rw [hR] at ew hw
      have hfull : fullG (toI p) (.mk k tk tx l) = ((sumL d1 : Int), ((sumL d1 + (textG u).length : Nat) : Int)) := by simp only [fullG, hR]; rfl
      rw [hR, hfull] at eF
      have cA := fun {β : Type} (st : St) (K : Kv β) => callTx (F := 20) hv1 i0 rfl ew st K
      have cF := fun {β : Type} (st : St) (K : Kv β) => callTx (F := 21) hv1 i0 rfl eF st K
      have hle : sumL d1 + (textG u).length ≤ 1000000 := by
        have h1 := sum_lv (.mk k tk tx l) []
        rw [hlv, sumL_app, sumL_cons] at h1
        have h2 := (toks_bound (.mk k tk tx l)).2
        have h3 := hsm.2
        simp only at h1
        omega
      obtain ⟨xa, ia, fa⟩ := find ((sumL d1 : Nat) : Int)
      obtain ⟨xb, ib, fb⟩ := find ((sumL d1 + (textG u).length - 1 : Nat) : Int)
      obtain ⟨xc, ic, fc⟩ := find ((sumL d1 + (textG u).length : Nat) : Int)
      have va : findV (.mk k tk tx l) ((sumL d1 : Nat) : Int) = (toI p, 0) := by simp only [findV, findG_hit (a := ((sumL d1 : Nat) : Int)) hlv (by omega) (by omega)]
      have vb : findV (.mk k tk tx l) ((sumL d1 + (textG u).length - 1 : Nat) : Int) = (toI p, 0) := by simp only [findV, findG_hit (a := ((sumL d1 + (textG u).length - 1 : Nat) : Int)) hlv (by omega) (by omega)]
      rw [va] at ia
      rw [vb] at ib
      have pa := fun {β : Type} (st : St) (K : Kv β) => call_paths ia i0 st K
      have pb := fun {β : Type} (st : St) (K : Kv β) => call_paths ib i0 st K
      have pc := fun {β : Type} (st : St) (K : Kv β) => call_paths ic i0 st K
      have hself : eqPs (toI p) (toI p) = true := eqPs_iff.2 rfl
      obtain ⟨ku, tku, txu, lu, xu, eu, hu', rfl, hxu, hsu⟩ := isN_open hw
      have hku : ku = 1 := by
        have hu' : u = _ := hu'
        rw [hu'] at hu; exact hu
      subst hku
      obtain ⟨s2, g2, kb, n2, fx2, es2⟩ := lvN s1 ((1 : Nat) : Int) (tku : Int) txu xu (by rw [r1]; omega)
      have r2 : s2.ro = 0 := kb.ro.trans r1
      obtain ⟨s3, g3, kc, n3, fx3, es3⟩ := local_var (O := orc vE) (st := s2) (t := 41) (z := 2) (old := [.int .i64 0, .int .i64 0]) (cs := [.int .i64 (sumL d1 : Int), .int .i64 ((sumL d1 + (textG u).length : Nat) : Int)]) (.agg [.int .i64 (sumL d1 : Int), .int .i64 ((sumL d1 + (textG u).length : Nat) : Int)]) rfl rfl (by rw [r2]; omega)
      have h12 := kb.old _ _ (fun f => f) g1
      have h13 := kc.old _ _ (fun f => f) h12
      have h23 := kc.old _ _ (fun f => f) g2
      have ld0 : ∀ {β : Type} (K : AV → List Nat → Option β), loadS 1 false (.mp s1.h 0) s3 K = K (.int .u8 ((1 : Nat) : Int)) [s1.h] := fun K => by rw [loadS_mp h23]; rfl
      have lf : ∀ {β : Type} (K : AV → List Nat → Option β), loadS 1 false (.mp s2.h 0) s3 K = K (.int .i64 (sumL d1 : Int)) [s2.h] := fun K => by rw [loadS_mp g3]; rfl
      have lt : ∀ {β : Type} (K : AV → List Nat → Option β), loadS 1 false (.mp s2.h 1) s3 K = K (.int .i64 ((sumL d1 + (textG u).length : Nat) : Int)) [s2.h] := fun K => by rw [loadS_mp g3]; rfl
      have hw1 : IntKind.wrap .i64 (((sumL d1 + (textG u).length : Nat) : Int) - 1) = ((sumL d1 + (textG u).length - 1 : Nat) : Int) := by
        rw [wrap_i64 (by omega) (by omega)]; omega
      have q1 : ¬ a < (sumL d1 : Int) := hn1
      have q2 : ¬ a ≥ ((sumL d1 + (textG u).length : Nat) : Int) := by omega
      simp only [hv, show ((0 : Int) != 0) = false from rfl, ifB_false, cA, errG, if_true, unT_tup, nthS_zero, nthS_one, unA_agg, unc_cons, asI_int, asS_str, un0_nil, hxu.asOne, es2, loadS_mp h12, List.drop_zero, takeO4, bindO_ok, cF, es3, ld0, show (((1 : Nat) : Int) != 1) = false from rfl, lf, ifB_decide, if_neg q1, lt, decide_eq_false q2, asB_bool, loadS_mp h13, fa, letV_eq, hw1, fb, fc, va, vb]
      simp only [show ((0 : Int) == 0) = true from rfl, ifB_true, pa, pb, hself, asB_bool, bindO_ok]
      cases hn : findG (.mk k tk tx l) ((sumL d1 + (textG u).length : Nat) : Int) with
      | none =>
        have hvc : (findV (.mk k tk tx l) ((sumL d1 + (textG u).length : Nat) : Int)).2 = 1 := by simp only [findV, hn]
        simp only [hvc, show ((1 : Int) == 1) = true from rfl, ifB_true, bindO_ok, unc_cons, asB_bool, un0_nil]
      | some q =>
        have hvc : findV (.mk k tk tx l) ((sumL d1 + (textG u).length : Nat) : Int) = (toI q, 0) := by simp only [findV, hn]
        have hne := findG_next hlv hn
        have hd : eqPs (toI q) (toI p) = false := by
          cases h : eqPs (toI q) (toI p) with
          | false => rfl
          | true => exact absurd (toI_inj (eqPs_iff.1 h)) hne
        rw [hvc] at pc
        simp only [hvc, show ((0 : Int) == 1) = false from rfl, ifB_false, pc, hd, asB_bool, bindO_ok, unc_cons, un0_nil]
        rfl
  exact bare_of rfl hgo
end Go.Proofs.YtflnfagdpoddiaaGreatDoor.Vm
/- Trees and paths: arguments. -/
set_option maxRecDepth 100000
set_option linter.unusedSimpArgs false
namespace Go.Proofs.YtflnfagdpoddiaaGreatDoor.Vm
open Go Go.VM Go.Proofs Go.Parse Go.Green

def lawS : List TypeId := [9, 5, 3, 26, 23, 24, 36]
theorem lawS_ok : ∀ t, inS lawS t = true → okTy Tryz.prog lawS t = true := by
  intro t ht
  have : t ∈ lawS := by
    obtain ⟨u, hu, e⟩ := List.any_eq_true.1 ht
    rw [← Nat.eq_of_beq_eq_true e]; exact hu
  exact List.all_eq_true.1 (show (lawS.all fun t => okTy Tryz.prog lawS t) = true by kernel_rfl) t this
theorem av_str {n t : Nat} {cs : List AV} (hu : Tryz.prog.underlying t = some .string) (h : AvOf Tryz.prog n t cs) : ∃ s, cs = [.str s] ∧ s.length ≤ maxLen := by
  cases n with
  | zero => cases h
  | succ n => simp only [AvOf, hu] at h; exact h
theorem av_u8 {n t : Nat} {cs : List AV} (hu : Tryz.prog.underlying t = some (.int .u8)) (h : AvOf Tryz.prog n t cs) : ∃ m : Nat, cs = [.int .u8 (m : Int)] := by
  cases n with
  | zero => cases h
  | succ n =>
    simp only [AvOf, hu] at h
    obtain ⟨m, rfl, h1, h2⟩ := h
    have h1 : (0 : Int) ≤ m := h1
    exact ⟨m.toNat, by rw [Int.toNat_of_nonneg h1]⟩
theorem av_int {n t : Nat} {cs : List AV} (hu : Tryz.prog.underlying t = some (.int .i64)) (h : AvOf Tryz.prog n t cs) : ∃ m : Int, cs = [.int .i64 m] := by
  cases n with
  | zero => cases h
  | succ n =>
    simp only [AvOf, hu] at h
    obtain ⟨m, rfl, _⟩ := h
    exact ⟨m, rfl⟩
theorem token_of {n : Nat} {cs : List AV} (h : AvOf Tryz.prog n 23 cs) : ∃ (m : Nat) (s : List UInt8), cs = [.int .u8 (m : Int), .str s] := by
  cases n with
  | zero => cases h
  | succ n =>
    simp only [AvOf, Tryz.underlying23] at h
    obtain ⟨a0, b0, rfl, h0, a1, b1, rfl, h1, rfl⟩ := h
    obtain ⟨x, rfl⟩ := av_u8 Tryz.underlying5 h0
    obtain ⟨s, rfl, _⟩ := av_str Tryz.underlying9 h1
    exact ⟨x, s, rfl⟩
/-- A slice as an argument. -/
theorem av_sl {n t e : Nat} {cs : List AV} (hu : Tryz.prog.underlying t = some (.slice e)) (h : AvOf Tryz.prog (n + 1) t cs) {b : Bool} (hst : isSt Tryz.prog e = b) {z : Nat} (hz : Tryz.prog.cellsOf e = z) :
    ∃ (x : AV) (L : List (List AV)), cs = [x] ∧ IsSl z x (L.map (mkV b)) ∧ (∀ a ∈ L, AvOf Tryz.prog n e a) ∧ bulkAs (L.map (mkV b)) + 1 ≤ bulkAs cs := by
  simp only [AvOf, hu] at h
  rcases h with rfl | rfl | ⟨L, rfl, hl, hL⟩
  · exact ⟨_, [], rfl, IsSl.nils, (fun _ h => by cases h), by rw [bulkAs_cons, List.map_nil, bulkAs_nil]; simp only [bulkA]; omega⟩
  · exact ⟨_, [], rfl, IsSl.emp, (fun _ h => by cases h), by rw [bulkAs_cons, List.map_nil, bulkAs_nil]; simp only [bulkA]; omega⟩
  · rw [hst, hz]
    refine ⟨_, L, rfl, IsSl.wide (by rw [List.length_map]; simpa [maxLen] using hl), hL, ?_⟩
    rw [bulkAs_cons, bulkAs_nil, bulkA_sl]
    exact Nat.le_refl _
theorem nodes_in : ∀ {L : List (List AV)}, (∀ a ∈ L, ∃ t, IsN t (.agg a) ∧ 4 * cntT t ≤ bulkAs a) → ∃ l, IsNs l (L.map (mkV true)) ∧ 4 * cntL l ≤ bulkAs (L.map (mkV true))
  | [], _ => ⟨[], IsNs.nil, by simp [cntL]⟩
  | a :: L, h => by
    obtain ⟨t, ht, hn⟩ := h a List.mem_cons_self
    obtain ⟨l, hl, hm⟩ := nodes_in (L := L) fun b hb => h b (List.mem_cons_of_mem _ hb)
    refine ⟨t :: l, IsNs.cons ht hl, ?_⟩
    simp only [cntL, List.map_cons, bulkAs_cons]
    have : bulkA (mkV true a) = bulkAs a := bulkA_agg a
    omega
theorem node_of : ∀ (n : Nat) {cs : List AV}, AvOf Tryz.prog n 26 cs → ∃ t, IsN t (.agg cs) ∧ 4 * cntT t ≤ bulkAs cs := by
  intro n
  induction n using Nat.strongRecOn with
  | _ n ih =>
    intro cs h
    cases n with
    | zero => cases h
    | succ n =>
      simp only [AvOf, Tryz.underlying26] at h
      obtain ⟨a0, b0, rfl, h0, a1, b1, rfl, h1, a2, b2, rfl, h2, rfl⟩ := h
      obtain ⟨k, rfl⟩ := av_u8 Tryz.underlying5 h0
      obtain ⟨tk, s, rfl⟩ := token_of h1
      cases n with
      | zero => cases h2
      | succ n =>
        obtain ⟨x, L, rfl, hx, hL, hb⟩ := av_sl Tryz.underlying24 h2 (b := true) (by kernel_rfl) (z := 4) (by kernel_rfl)
        obtain ⟨l, hl, hm⟩ := nodes_in fun a ha => ih n (by omega) (hL a ha)
        refine ⟨.mk k tk s l, by simp only [IsN]; exact ⟨x, _, rfl, hx, hl⟩, ?_⟩
        simp only [cntT, bulkAs_app, bulkAs_cons, bulkAs_nil, bulkA_int, bulkA_str] at hb ⊢
        omega
end Go.Proofs.YtflnfagdpoddiaaGreatDoor.Vm
