/-
  A part of the proof.
-/
import Derived.Test.YtkknkhniadiapaaDoorVmCE
set_option maxRecDepth 1000000
set_option linter.unusedSimpArgs false
set_option maxHeartbeats 0
namespace Go.Proofs.YtkknkhniadiapaaDoor.Vm
open Go Go.VM Go.Proofs Go.Store Go.Lib T
section
variable {st0 st st' : St} {sp ow : Nat} {ds : List Dc}
structure Way (st0 st : St) (v : AV) : Prop where
  keeps : Keeps st0 st (fun _ => False)
  new : ∀ j, ownerOf v j → st0.h ≤ j
theorem way_nils (st : St) : Way st st .nils := ⟨Keeps.refl _ _, fun j => by rintro ⟨_, _, h⟩; cases h⟩
theorem Way.keep {v : AV} (h : Way st0 st v) (k : Keeps st st' (fun _ => False)) : Way st0 st' v := ⟨h.keeps.trans k, h.new⟩
theorem Way.app {v v' : AV} (h : Way st0 st v) (k : Keeps st st' (ownerOf v)) (j : ∀ j, ownerOf v' j → ownerOf v j ∨ st.h ≤ j) : Way st0 st' v' :=
  ⟨Keeps.join h.keeps k fun i hi => .inr (h.new i hi), fun i hi => by
    rcases j i hi with hi | hi
    · exact h.new i hi
    · exact Nat.le_trans h.keeps.h hi⟩
theorem call_versions (h : Sto st sp ow ds) {i : Nat} {d : Dc} (hd : ds[i]? = some d) (ok : DcOk d) :
    ∃ v' st', Own st' 2 VT v' (d.kept.map fun v => verV (v.1, rp v.2)) ∧ Way st st' v' ∧ ∀ {β : Type} (K : Kv β), callS (orc vE) 39 [.gp ow ds.length (i * 18)] st K = K v' st' ⟨[], .all st st'⟩ := by
  have hne : 1 ≤ d.pv.length := by
    rw [d.pv_len]
    cases hv : d.vs with
    | nil => exact absurd hv ok.some
    | cons _ _ => simp
  obtain ⟨v', st', e, o, k, j⟩ := versions_ok (h.doc hd) d.pt (by rw [d.pv_len]; have := ok.len; omega) hne h.ro
  refine ⟨v', st', ?_, ⟨k, j⟩, fun K => callS_wide K rfl (bares_gp _ _ _ _ _) e⟩
  have : (d.pv.drop (d.pv.length - 8)).map verV = d.kept.map fun v => verV (v.1, rp v.2) := by
    unfold Dc.pv Dc.kept
    rw [← List.map_drop, List.map_map, List.length_map]
    rfl
  rw [← this]; exact o
def noV (v : Int × T) : AV := .int .i64 v.1
theorem kept_loop {x : AV} {l : List (Int × T)} {sx : St} (hx : Own sx 2 VT x (l.map fun v => verV (v.1, rp v.2))) (hr0 : st0.ro = 0) (hlen : l.length ≤ 1000000) : ∀ (m : List (Int × T)) (i : Nat) (out : List (Int × T)) (v : AV) (st : St), l.drop i = m → Way st0 st v → Own st 1 3 v (out.map noV) → out.length + m.length ≤ 1000000 →
    ∃ v' st', loopO (w23_L1 x l.length) ([v, .int .i64 (i : Int)], st) = some (0, [v'], st') ∧ Own st' 1 3 v' ((out ++ m).map noV) ∧ Way st0 st' v'
  | [], i, out, v, st, hd, hW, ho, hl => by
    have := List.drop_eq_nil_iff.1 hd
    have q : ¬ (i : Int) < (l.length : Int) := by omega
    refine ⟨v, st, loopO_inr ?_, by simpa using ho, hW⟩
    simp only [w23_L1, unc_cons, asI_int, un0_nil, ifB_decide, if_neg q]
  | u :: m, i, out, v, st, hd, hW, ho, hl => by
    obtain ⟨hg, hdr, hlt⟩ := drop_cons hd
    have q : (i : Int) < (l.length : Int) := by omega
    have hg2 : (l.map fun v => verV (v.1, rp v.2))[i]? = some (verV (u.1, rp u.2)) := by rw [List.getElem?_map, hg]; rfl
    have ix : ∀ {β : Type} (K : AV → List Nat → Option β), idxA 2 x (i : Int) st K = K (.ip [.int .i64 u.1, rp u.2]) [] := fun K => own_idx hx hg2 st K
    have tk2 : ∀ {β : Type} (a b : AV) (K : AV → Option β), bindO (takeO 2 true [a, b]) K = K (.agg [a, b]) := fun _ _ _ => rfl
    have ro : st.ro ≤ st.h := by rw [hW.keeps.ro, hr0]; exact Nat.zero_le _
    obtain ⟨s1, g1, k1, n1, fx1, e1⟩ := local_var (O := orc vE) (st := st) (t := VT) (z := 2) (old := [.int .i64 0, .nilp]) (cs := [.int .i64 u.1, rp u.2]) (.agg [.int .i64 u.1, rp u.2]) rfl rfl ro
    have l1 : ∀ {β : Type} (K : AV → List Nat → Option β), loadS 1 false (.mp st.h 0) s1 K = K (.int .i64 u.1) [st.h] := fun K => by rw [loadS_mp g1]; rfl
    have hw1 : IntKind.wrap .i64 ((i : Int) + 1) = ((i + 1 : Nat) : Int) := wrapA1 (by omega)
    have ho1 := own_keep ho k1 (fun _ _ f => f)
    have art : ∀ {β : Type} (K : Option β), asOne (rp u.2) K = K := fun K => rfl
    obtain ⟨v1, s2, x1, ho2, k2, j2, _, e2⟩ := own_fx (b := 8) [.int .i64 u.1] ho1 fun _ => room_of (by
      simp only [List.length_map, List.length_cons, List.length_nil] at hl ⊢; omega) (by omega) (by omega)
    have hW2 := (hW.keep k1).app k2 j2
    obtain ⟨v', st', e, o3, hW3⟩ := kept_loop hx hr0 hlen m (i + 1) (out ++ [u]) v1 s2 hdr hW2 (by rw [List.map_append]; exact ho2) (by simp only [List.length_append, List.length_cons, List.length_nil] at hl ⊢; omega)
    refine ⟨v', st', (loopO_inl ?_).trans e, by simpa using o3, hW3⟩
    simp only [w23_L1, unc_cons, asI_int, un0_nil, ifB_decide, if_pos q, ix, loadS_ip, tk2, unA_agg, letSt_eq, art, e1, l1, e2, letV_eq, hw1]
theorem call_kept (h : Sto st sp ow ds) (hok : ∀ d ∈ ds, DcOk d) (hl : ds.length ≤ 1000000) (nm : B) :
    ∃ v st', Own st' 1 3 v ((match docN' nm ds with | none => [] | some d => d.kept).map noV) ∧ Way st st' v ∧ ∀ {β : Type} (K : Kv β), callS (orc vE) 23 [.mp sp 0, .str nm] st K = K (.tup [v, .int .i64 (match docN' nm ds with | none => 5 | some _ => 0)]) st' ⟨[], .all st st'⟩ := by
  obtain ⟨s1, e1, k1⟩ := open_ok h hl nm
  have h1 := h.keeps k1
  have co := fun {β : Type} (K : Kv β) => call_open e1 K
  unfold docN'
  cases hf : findN nm ds 0 with
  | none =>
    rw [hf] at co
    refine ⟨.nils, s1, Own.nils h1.ro _ _, ⟨k1, (way_nils st).new⟩, fun K => callS_wide K rfl (bares_mp _ _ _ _) (wide_of ((w23_eq _ _ _).trans ?_))⟩
    simp only [w23, asS_str, co, unT_tup, nthS_zero, nthS_one, asI_int, ifB_bne, show ¬ ((5 : Int) = 0) by decide, if_false]
    rfl
  | some k =>
    rw [hf] at co
    obtain ⟨d, hd, _⟩ := find_doc hf
    have ok := hok d (List.mem_of_getElem? hd)
    simp only [Option.bind_some, hd]
    obtain ⟨x, s2, ox, wx, cv⟩ := call_versions h1 hd ok
    have hkl := kept_len d
    have hln : ∀ {β : Type} (K : Nat → Option β), lenS x K = K d.kept.length := fun K => by rw [own_len ox, List.length_map]
    have k12 := k1.trans wx.keeps
    have h2 := h1.keeps wx.keeps
    obtain ⟨v, s3, e3, o3, w3⟩ := kept_loop (st0 := st) ox h.1 (by omega) d.kept 0 [] .nils s2 rfl ⟨k12, (way_nils st).new⟩ (Own.nils h2.ro _ _) (by simp; omega)
    have e3 : loopO (w23_L1 x d.kept.length) ([.nils, .int .i64 0], s2) = _ := e3
    refine ⟨v, s3, o3, w3, fun K => callS_wide K rfl (bares_mp _ _ _ _) (wide_of ((w23_eq _ _ _).trans ?_))⟩
    simp only [w23, asS_str, co, unT_tup, nthS_zero, nthS_one, asI_int, ifB_bne, if_true, cv, hln, e3, bindO_ok, unc_cons, un0_nil]
theorem at_loop {x : AV} {l : List (Int × T)} {sx : St} (hx : Own sx 2 VT x (l.map fun v => verV (v.1, rp v.2))) (hr0 : st0.ro = 0) (hlen : l.length ≤ 1000000) (hwf : ∀ v ∈ l, v.2.size ≤ 65536) (no : Int) : ∀ (m : List (Int × T)) (i : Nat) (st : St), l.drop i = m → Keeps st0 st (fun _ => False) →
    ∃ r s n st', loopO (w16_L1 no x l.length) ([.str [], .int .i64 0, .int .i64 (i : Int)], st) = some (r, [.str s, .int .i64 n], st') ∧ Keeps st0 st' (fun _ => False) ∧ match verF no m with | none => r = 0 | some t => r = 1 ∧ s = t.text ∧ n = 0
  | [], i, st, hd, hk => by
    have := List.drop_eq_nil_iff.1 hd
    have q : ¬ (i : Int) < (l.length : Int) := by omega
    refine ⟨0, [], 0, st, loopO_inr ?_, hk, rfl⟩
    simp only [w16_L1, unc_cons, asI_int, asS_str, un0_nil, ifB_decide, if_neg q]
  | u :: m, i, st, hd, hk => by
    obtain ⟨hg, hdr, hlt⟩ := drop_cons hd
    have q : (i : Int) < (l.length : Int) := by omega
    have hg2 : (l.map fun v => verV (v.1, rp v.2))[i]? = some (verV (u.1, rp u.2)) := by rw [List.getElem?_map, hg]; rfl
    have ix : ∀ {β : Type} (K : AV → List Nat → Option β), idxA 2 x (i : Int) st K = K (.ip [.int .i64 u.1, rp u.2]) [] := fun K => own_idx hx hg2 st K
    have tk2 : ∀ {β : Type} (a b : AV) (K : AV → Option β), bindO (takeO 2 true [a, b]) K = K (.agg [a, b]) := fun _ _ _ => rfl
    have ro : st.ro ≤ st.h := by rw [hk.ro, hr0]; exact Nat.zero_le _
    obtain ⟨s1, g1, k1, n1, fx1, e1⟩ := local_var (O := orc vE) (st := st) (t := VT) (z := 2) (old := [.int .i64 0, .nilp]) (cs := [.int .i64 u.1, rp u.2]) (.agg [.int .i64 u.1, rp u.2]) rfl rfl ro
    have l1 : ∀ {β : Type} (K : AV → List Nat → Option β), loadS 1 false (.mp st.h 0) s1 K = K (.int .i64 u.1) [st.h] := fun K => by rw [loadS_mp g1]; rfl
    have l2 : ∀ {β : Type} (K : AV → List Nat → Option β), loadS 1 false (.mp st.h 1) s1 K = K (rp u.2) [st.h] := fun K => by rw [loadS_mp g1]; rfl
    have hw1 : IntKind.wrap .i64 ((i : Int) + 1) = ((i + 1 : Nat) : Int) := wrapA1 (by omega)
    have art : ∀ {β : Type} (K : Option β), asOne (rp u.2) K = K := fun K => rfl
    have hsz := hwf u (List.mem_of_getElem? hg)
    have cs := fun {β : Type} (st : St) (K : Kv β) => call_string (t := u.2) (by omega) st K
    unfold verF
    by_cases hn : u.1 = no
    · rw [if_pos hn]
      refine ⟨1, u.2.text, 0, s1, loopO_inr ?_, hk.trans k1, rfl, rfl, rfl⟩
      simp only [w16_L1, unc_cons, asI_int, asS_str, un0_nil, ifB_decide, if_pos q, ix, loadS_ip, tk2, unA_agg, letSt_eq, art, e1, l1, ifB_beq, if_pos hn, l2, cs]
    · rw [if_neg hn]
      obtain ⟨r, s, n, st', e, k3, hm⟩ := at_loop hx hr0 hlen hwf no m (i + 1) s1 hdr (hk.trans k1)
      refine ⟨r, s, n, st', (loopO_inl ?_).trans e, k3, hm⟩
      simp only [w16_L1, unc_cons, asI_int, asS_str, un0_nil, ifB_decide, if_pos q, ix, loadS_ip, tk2, unA_agg, letSt_eq, art, e1, l1, ifB_beq, if_neg hn, letV_eq, hw1]
theorem call_at (h : Sto st sp ow ds) (hok : ∀ d ∈ ds, DcOk d) (hl : ds.length ≤ 1000000) (nm : B) (no : Int) :
    ∃ st', Keeps st st' (fun _ => False) ∧ ∀ {β : Type} (K : Kv β), callS (orc vE) 16 [.mp sp 0, .str nm, .int .i64 no] st K = K (match atT ds nm no with | none => .tup [.str [], .int .i64 5] | some s => .tup [.str s, .int .i64 0]) st' ⟨[], .all st st'⟩ := by
  obtain ⟨s1, e1, k1⟩ := open_ok h hl nm
  have h1 := h.keeps k1
  have co := fun {β : Type} (K : Kv β) => call_open e1 K
  unfold atT docN'
  cases hf : findN nm ds 0 with
  | none =>
    rw [hf] at co
    refine ⟨s1, k1, fun K => callS_wide K rfl (bares_mp _ _ _ _) (wide_of ((w16_eq _ _ _ _).trans ?_))⟩
    simp only [w16, asS_str, co, unT_tup, nthS_zero, nthS_one, asI_int, ifB_bne, show ¬ ((5 : Int) = 0) by decide, if_false]
    rfl
  | some k =>
    rw [hf] at co
    obtain ⟨d, hd, _⟩ := find_doc hf
    have ok := hok d (List.mem_of_getElem? hd)
    simp only [Option.bind_some, hd]
    obtain ⟨x, s2, ox, wx, cv⟩ := call_versions h1 hd ok
    have hkl := kept_len d
    have hln : ∀ {β : Type} (K : Nat → Option β), lenS x K = K d.kept.length := fun K => by rw [own_len ox, List.length_map]
    have k12 := k1.trans wx.keeps
    obtain ⟨r, s, n, s3, e3, k3, hm⟩ := at_loop (st0 := st) ox h.1 (by omega) (fun v hv => (ok.wf v (List.mem_of_mem_drop hv)).2) no d.kept 0 s2 rfl k12
    have e3 : loopO (w16_L1 no x d.kept.length) ([.str [], .int .i64 0, .int .i64 0], s2) = _ := e3
    refine ⟨s3, k3, fun K => callS_wide K rfl (bares_mp _ _ _ _) (wide_of ((w16_eq _ _ _ _).trans ?_))⟩
    cases hv : verF no d.kept with
    | none =>
      rw [hv] at hm
      have hm : r = 0 := hm
      subst hm
      simp only [w16, asS_str, co, unT_tup, nthS_zero, nthS_one, asI_int, ifB_bne, if_true, cv, hln, e3, bindO_ok, unc_cons, un0_nil, sel2_zero, Option.map_none]
    | some t =>
      rw [hv] at hm
      obtain ⟨h1, h2, h3⟩ := hm
      subst h1; subst h2; subst h3
      simp only [w16, asS_str, co, unT_tup, nthS_zero, nthS_one, asI_int, ifB_bne, if_true, cv, hln, e3, bindO_ok, unc_cons, un0_nil, sel2_one, Option.map_some]
theorem flat_erase {z : Nat} : ∀ {es : List AV} (_ : ∀ v ∈ es, v.cells.length = z) {i : Nat}, i < es.length → flat (es.eraseIdx i) = (flat es).take (i * z) ++ (flat es).drop ((i + 1) * z)
  | [], _, _, h => by simp at h
  | u :: l, hz, 0, _ => by
    have hu := hz u (by simp)
    show flat l = (u.cells ++ flat l).take (0 * z) ++ (u.cells ++ flat l).drop ((0 + 1) * z)
    rw [Nat.zero_mul, List.take_zero, Nat.zero_add, Nat.one_mul, List.nil_append, List.drop_left' hu]
  | u :: l, hz, i + 1, h => by
    have hu := hz u (by simp)
    have ih := flat_erase (fun x hx => hz x (List.mem_cons_of_mem _ hx)) (show i < l.length by simpa using h)
    show u.cells ++ flat (l.eraseIdx i) = (u.cells ++ flat l).take ((i + 1) * z) ++ (u.cells ++ flat l).drop ((i + 1 + 1) * z)
    have e1 : (i + 1) * z = u.cells.length + i * z := by rw [hu, Nat.add_mul]; omega
    have e2 : (i + 1 + 1) * z = u.cells.length + (i + 1) * z := by rw [hu, Nat.add_mul (i + 1)]; omega
    have t : (u.cells ++ flat l).take ((i + 1) * z) = u.cells ++ (flat l).take (i * z) := by rw [e1, List.take_append, List.take_of_length_le (by omega), Nat.add_sub_cancel_left]
    rw [ih, e2, ← List.drop_drop, List.drop_left, t, List.append_assoc]
theorem map_erase {α β : Type} (f : α → β) : ∀ (l : List α) (i : Nat), (l.map f).eraseIdx i = (l.eraseIdx i).map f
  | [], _ => rfl
  | _ :: _, 0 => rfl
  | a :: l, i + 1 => congrArg (f a :: ·) (map_erase f l i)
theorem wrule_of {f : FuncId} {args : List AV} {st : St} {r : List AV → St → Res (AV × St)} {v : AV × St} (hF : vE.F f = none) (hr : vE.wrule f = some r) (h : r args st = .ok v) : (orc vE).wide f args st = some v := by
  refine orc_wide (n := 1) ?_
  simp only [caller, hF, hr, h]
def closeE (ds : List Dc) (nm : B) : Int := match findN nm ds 0 with | none => 5 | some _ => 0
theorem close_ok (h : Sto st sp ow ds) (hl : ds.length ≤ 1000000) (nm : B) :
    match findN nm ds 0 with
    | none => ∃ st', Keeps st st' (fun _ => False) ∧ ∀ {β : Type} (K : Kv β), callS (orc vE) 12 [.mp sp 0, .str nm] st K = K (.int .i64 5) st' ⟨[], .all st st'⟩
    | some i => ∃ st' ow', Sto st' sp ow' (ds.eraseIdx i) ∧ Keeps st st' (fun j => j = sp ∨ j = ow) ∧ st.h ≤ ow' ∧ ∀ {β : Type} (K : Kv β), callS (orc vE) 12 [.mp sp 0, .str nm] st K = K (.int .i64 0) st' ⟨[], .all st st'⟩ := by
  obtain ⟨s1, e1, k1⟩ := find_ok h hl nm
  have h1 := h.keeps k1
  have cf := fun {β : Type} (K : Kv β) => call_find e1 K
  unfold findI at cf
  cases hf : findN nm ds 0 with
  | none =>
    rw [hf] at cf
    have q : (-1 : Int) < 0 := by omega
    refine ⟨s1, k1, fun K => callS_wide K rfl (bares_mp _ _ _ _) (wide_of ((w12_eq _ _ _).trans ?_))⟩
    simp only [w12, asS_str, nil_mp, ifB_false, cf, asI_int, ifB_decide, if_pos q]
  | some i =>
    rw [hf] at cf
    obtain ⟨d, hd, _⟩ := find_doc hf
    have hlt : i < ds.length := by
      by_cases hi : i < ds.length
      · exact hi
      · rw [List.getElem?_eq_none (by omega)] at hd; cases hd
    obtain ⟨hg1, hw1⟩ := h1.row hd
    have q : ¬ (i : Int) < 0 := by omega
    have hw : IntKind.wrap .i64 ((i : Int) + 1) = ((i + 1 : Nat) : Int) := wrapA1 (by omega)
    have l1 : ∀ {β : Type} (K : AV → List Nat → Option β), loadS 1 false (.mp sp 0) s1 K = K (.gs ow 18 ds.length) [sp] := fun K => by rw [loadS_mp hg1]; rfl
    have hdel : (delR DT 18) [.gs ow 18 ds.length, .int .i64 (i : Int), .int .i64 ((i + 1 : Nat) : Int)] s1 = .ok (.gs s1.h 18 (ds.length - 1), ((s1.put ow .dead).add (.row (ds.length - 1) DT 18 ((flat (ds.map Dc.val)).take (i * 18) ++ (flat (ds.map Dc.val)).drop ((i + 1) * 18))))) := by
      show (do
        match ← s1.get ow with
        | .row m e' z2 cs => match (ds.length.beq m && (Nat.beq e' DT && (z2.beq 18 && (18 : Nat).beq 18))) && ((i.blt (i + 1) && (i + 1).ble ds.length) && s1.ro.ble ow) with
          | true => pure (AV.gs s1.h 18 (ds.length - (i + 1 - i)), ((s1.put ow .dead).new (.row (ds.length - (i + 1 - i)) DT 18 (cs.take (i * 18) ++ cs.drop ((i + 1) * 18)))).2)
          | false => Except.error "delete: what?"
        | _ => Except.error "delete: of what?" : Res (AV × St)) = _
      have c : ((ds.length.beq ds.length && (Nat.beq DT DT && ((18 : Nat).beq 18 && (18 : Nat).beq 18))) && ((i.blt (i + 1) && (i + 1).ble ds.length) && s1.ro.ble ow)) = true := by
        rw [Nat.beq_refl, h1.1, Nat.ble_eq_true_of_le (show i + 1 ≤ ds.length by omega), blt_true.2 (Nat.lt_succ_self i), Nat.ble_eq_true_of_le (Nat.zero_le ow)]
        rfl
      rw [hw1]
      simp only [ok_bind, c, Nat.add_sub_cancel_left, pure_eq]
      rfl
    have e2 : (orc vE).wide 33 [.gs ow 18 ds.length, .int .i64 (i : Int), .int .i64 ((i + 1 : Nat) : Int)] s1 = some _ := wrule_of rfl rfl hdel
    have cd : ∀ {β : Type} (K : Kv β), callS (orc vE) 33 [.gs ow 18 ds.length, .int .i64 (i : Int), .int .i64 ((i + 1 : Nat) : Int)] s1 K = K _ _ ⟨[], .all s1 _⟩ := fun K => callS_wide K rfl rfl e2
    rw [← flat_erase (vals_len ds) (by rw [List.length_map]; exact hlt)] at cd
    have hlm : (ds.eraseIdx i).length = ds.length - 1 := List.length_eraseIdx_of_lt hlt
    have hmap : (ds.map Dc.val).eraseIdx i = (ds.eraseIdx i).map Dc.val := map_erase _ _ _
    rw [← hlm, hmap] at cd
    have gnew : ((s1.put ow .dead).add (.row (ds.eraseIdx i).length DT 18 (flat ((ds.eraseIdx i).map Dc.val)))).get s1.h = .ok (.row (ds.eraseIdx i).length DT 18 (flat ((ds.eraseIdx i).map Dc.val))) := St.get_add_new (st := s1.put ow .dead)
    have hso : sp ≠ ow := by rintro rfl; rw [hg1] at hw1; cases hw1
    have k2 : Keeps s1 ((s1.put ow .dead).add (.row (ds.eraseIdx i).length DT 18 (flat ((ds.eraseIdx i).map Dc.val)))) (· = ow) := (Keeps.put (but := (· = ow)) rfl).trans (Keeps.add _ _ _)
    have hh : s1.h < ((s1.put ow .dead).add (.row (ds.eraseIdx i).length DT 18 (flat ((ds.eraseIdx i).map Dc.val)))).h := Nat.lt_succ_self _
    generalize (s1.put ow .dead).add (.row (ds.eraseIdx i).length DT 18 (flat ((ds.eraseIdx i).map Dc.val))) = s2 at cd gnew k2 hh
    have hg2 : s2.get sp = .ok (.cells SOT [.gs ow 18 ds.length]) := k2.of_ne hso hg1
    have hr2 : s2.ro = 0 := by rw [k2.ro, h1.1]
    obtain ⟨s3, g3, k3, n3, fx3, e3⟩ := var_put (O := orc vE) (.gs s1.h 18 (ds.eraseIdx i).length) hg2 (z := 1) (cs := [.gs s1.h 18 (ds.eraseIdx i).length]) rfl rfl (by rw [hr2]; exact Nat.zero_le _)
    have hne : s1.h ≠ sp := Nat.ne_of_gt (St.get_ok.1 hg1).1
    refine ⟨s3, s1.h, ⟨by rw [k3.ro, hr2], _, g3, .inr ⟨rfl, k3.of_ne hne gnew⟩⟩, (k1.weak fun _ f => f.elim).trans ((k2.weak fun j hj => .inr hj).trans (k3.weak fun j hj => .inl hj)), k1.h, fun K => callS_wide K rfl (bares_mp _ _ _ _) (wide_of ((w12_eq _ _ _).trans ?_))⟩
    have ag : ∀ {β : Type} (K : Option β), asOne (.gs s1.h 18 (ds.eraseIdx i).length) K = K := fun K => rfl
    simp only [w12, asS_str, nil_mp, ifB_false, cf, asI_int, ifB_decide, if_neg q, notNil_mp, chk_true, fldA_mp, Nat.add_zero, l1, letV_eq, hw, cd, ag, e3]
end
end Go.Proofs.YtkknkhniadiapaaDoor.Vm
namespace Go.Proofs.YtkknkhniadiapaaDoor.Vm
open Go Go.VM Go.Proofs
noncomputable def g19_L1 (x0 : AV) (x1 : AV) : Car → Option (Car ⊕ Nat × Car) := fun c2 => unc (Prod.fst c2) fun v3 l4 => asB v3 fun b5 => unc l4 fun v6 l7 => asI .i64 v6 fun n8 => un0 l7 (lenS x0 fun k9 => ifB (decide (n8 < (↑k9 : Int))) (idxA 1 x0 n8 (Prod.snd c2) fun v10 _x => loadS 1 false v10 (Prod.snd c2) fun v12 _x => asS v12 fun l14 => idxA 1 x1 n8 (Prod.snd c2) fun v15 _x => loadS 1 false v15 (Prod.snd c2) fun v17 _x => asS v17 fun l19 => ifB (!l14 == l19) (some (Sum.inr (1, [AV.bool false], Prod.snd c2))) (letV (IntKind.wrap .i64 (n8 + 1)) fun n20 => some (Sum.inl ([AV.bool b5, AV.int .i64 n20], Prod.snd c2)))) (some (Sum.inr (0, [AV.bool b5], Prod.snd c2))))
noncomputable def g19 : AV → AV → Option AV := fun x0 x1 => lenS x0 fun k0 => lenS x1 fun k1 => ifB ((↑k0 : Int) != (↑k1 : Int)) (some (AV.bool false)) (bindO (loopO (g19_L1 x0 x1) ([AV.bool false, AV.int .i64 0], St.mk 0 0 Tr.leaf)) fun c21 => unc (Prod.fst (Prod.snd c21)) fun v22 l23 => asB v22 fun b24 => un0 l23 (sel2 (Prod.fst c21) (some (AV.bool true)) fun _x => some (AV.bool b24)))
theorem g19_eq (x0 x1 : AV) : bareS vE 19 [x0, x1] = g19 x0 x1 := by kernel_rfl
noncomputable def w19_L1 (x0 : AV) (x1 : AV) : Car → Option (Car ⊕ Nat × Car) := fun c2 => unc (Prod.fst c2) fun v3 l4 => asB v3 fun b5 => unc l4 fun v6 l7 => asI .i64 v6 fun n8 => un0 l7 (lenS x0 fun k9 => ifB (decide (n8 < (↑k9 : Int))) (idxA 1 x0 n8 (Prod.snd c2) fun v10 _x => loadS 1 false v10 (Prod.snd c2) fun v12 _x => asS v12 fun l14 => idxA 1 x1 n8 (Prod.snd c2) fun v15 _x => loadS 1 false v15 (Prod.snd c2) fun v17 _x => asS v17 fun l19 => ifB (!l14 == l19) (some (Sum.inr (1, [AV.bool false], Prod.snd c2))) (letV (IntKind.wrap .i64 (n8 + 1)) fun n20 => some (Sum.inl ([AV.bool b5, AV.int .i64 n20], Prod.snd c2)))) (some (Sum.inr (0, [AV.bool b5], Prod.snd c2))))
noncomputable def w19 : AV → AV → St → Option (AV × St) := fun x0 x1 st => lenS x0 fun k0 => lenS x1 fun k1 => ifB ((↑k0 : Int) != (↑k1 : Int)) (some (AV.bool false, st)) (bindO (loopO (w19_L1 x0 x1) ([AV.bool false, AV.int .i64 0], st)) fun c21 => unc (Prod.fst (Prod.snd c21)) fun v22 l23 => asB v22 fun b24 => un0 l23 (sel2 (Prod.fst c21) (some (AV.bool true, Prod.snd (Prod.snd c21))) fun _x => some (AV.bool b24, Prod.snd (Prod.snd c21))))
theorem w19_eq (x0 x1 : AV) (st : St) : wideS vE 19 [x0, x1] st = w19 x0 x1 st := by kernel_rfl
noncomputable def w6 : AV → AV → AV → St → Option (AV × St) := fun x0 x1 x2 st => un_bsisv x2 fun n4 l7 n10 l13 v14 => (asOne v14 (fit1 v14 fun v16 => ifB (n4 == 0) (callS (orc vE) 9 [x0, AV.str l7, AV.int .i64 n10, AV.str l13] st fun v17 st18 x19 => asI .i64 v17 fun n20 => chk (apart x19 (Fx.mk [] Did.kept) && true) (chk (apart x19 (Fx.mk [] Did.kept) && true) (chk (apart x19 (Fx.mk [] Did.kept) && true) (chk (apart x19 (Fx.mk [] Did.kept) && true) (chk (apart x19 (Fx.mk [] Did.kept) && true) (chk (apart x19 (Fx.mk [] Did.kept) && true) (chk (apart x19 (Fx.mk [] Did.kept) && true) (callS (orc vE) 13 [x1, AV.str l7, AV.int .i64 n10, AV.str l13] st18 fun v21 st22 _x => asI .i64 v21 fun n24 => some (AV.bool (n20 == n24), st22))))))))) (ifB (n4 == 1) (callS (orc vE) 11 [v16] st fun v25 st26 x27 => chk (apart (Fx.mk [] Did.kept) x27 && (apart (Fx.mk [] Did.kept) x27 && (apart (Fx.mk [] Did.kept) x27 && (apart (Fx.mk [] Did.kept) x27 && (apart (Fx.mk [] Did.kept) x27 && true))))) (callS (orc vE) 10 [x0, AV.str l7, AV.int .i64 n10, v25] st26 fun v28 st29 x30 => asI .i64 v28 fun n31 => chk (apart x30 (Fx.mk [] Did.kept) && (apart x27 (Fx.mk [] Did.kept) && true)) (chk (apart x30 (Fx.mk [] Did.kept) && (apart x27 (Fx.mk [] Did.kept) && true)) (chk (apart x30 (Fx.mk [] Did.kept) && (apart x27 (Fx.mk [] Did.kept) && true)) (chk (apart x30 (Fx.mk [] Did.kept) && (apart x27 (Fx.mk [] Did.kept) && true)) (chk (apart x30 (Fx.mk [] Did.kept) && (apart x27 (Fx.mk [] Did.kept) && true)) (chk (apart x30 (Fx.mk [] Did.kept) && (apart x27 (Fx.mk [] Did.kept) && true)) (chk (apart x30 (Fx.mk [] Did.kept) && (apart x27 (Fx.mk [] Did.kept) && true)) (callS (orc vE) 14 [x1, AV.str l7, AV.int .i64 n10, v16] st29 fun v32 st33 _x => asI .i64 v32 fun n35 => some (AV.bool (n31 == n35), st33)))))))))) (ifB (n4 == 2) (callS (orc vE) 12 [x0, AV.str l7] st fun v36 st37 x38 => asI .i64 v36 fun n39 => chk (apart x38 (Fx.mk [] Did.kept) && true) (chk (apart x38 (Fx.mk [] Did.kept) && true) (chk (apart x38 (Fx.mk [] Did.kept) && true) (callS (orc vE) 15 [x1, AV.str l7] st37 fun v40 st41 _x => asI .i64 v40 fun n43 => some (AV.bool (n39 == n43), st41))))) (callS (orc vE) 16 [x0, AV.str l7, AV.int .i64 n10] st fun v44 st45 _x => unT v44 fun l47 => nthS l47 0 fun v48 => asS v48 fun l49 => unT v44 fun l50 => nthS l50 1 fun v51 => asI .i64 v51 fun n52 => callS (orc vE) 17 [x1, AV.str l7, AV.int .i64 n10] st45 fun v53 st54 _x => unT v53 fun l56 => nthS l56 0 fun v57 => asS v57 fun l58 => unT v53 fun l59 => nthS l59 1 fun v60 => asI .i64 v60 fun n61 => bindO (ifB (l49 == l58) (some ([AV.bool (n52 == n61)], st54)) (some ([AV.bool false], st54))) fun c62 => unc (Prod.fst c62) fun v63 l64 => asB v63 fun b65 => un0 l64 (some (AV.bool b65, Prod.snd c62)))))))
theorem w6_eq (x0 x1 x2 : AV) (st : St) : wideS vE 6 [x0, x1, x2] st = w6 x0 x1 x2 st := by kernel_rfl
noncomputable def w7_L1 (x0 : AV) (x1 : AV) (v11 : AV) (n20 : Int) (v78 : AV) : Car → Option (Car ⊕ Nat × Car) := fun c90 => unc (Prod.fst c90) fun v91 l92 => asB v91 fun b93 => unc l92 fun v94 l95 => asI .i64 v94 fun n96 => un0 l95 (lenS v78 fun k97 => ifB (decide (n96 < (↑k97 : Int))) (idxA 1 v11 n20 (Prod.snd c90) fun v98 _x => loadS 1 false v98 (Prod.snd c90) fun v100 _x => asS v100 fun l102 => idxA 1 v78 n96 (Prod.snd c90) fun v103 _x => loadS 1 false v103 (Prod.snd c90) fun v105 _x => asI .i64 v105 fun n107 => callS (orc vE) 16 [x0, AV.str l102, AV.int .i64 n107] (Prod.snd c90) fun v108 st109 _x => unT v108 fun l111 => nthS l111 0 fun v112 => asS v112 fun l113 => unT v108 fun l114 => nthS l114 1 fun v115 => asI .i64 v115 fun n116 => idxA 1 v11 n20 st109 fun v117 _x => loadS 1 false v117 st109 fun v119 _x => asS v119 fun l121 => idxA 1 v78 n96 st109 fun v122 _x => loadS 1 false v122 st109 fun v124 _x => asI .i64 v124 fun n126 => callS (orc vE) 17 [x1, AV.str l121, AV.int .i64 n126] st109 fun v127 st128 _x => unT v127 fun l130 => nthS l130 0 fun v131 => asS v131 fun l132 => unT v127 fun l133 => nthS l133 1 fun v134 => asI .i64 v134 fun n135 => bindO (ifB (!l113 == l132) (some ([AV.bool true], st128)) (some ([AV.bool (n116 != n135)], st128))) fun c136 => unc (Prod.fst c136) fun v137 l138 => asB v137 fun b139 => un0 l138 (ifB b139 (some (Sum.inr (1, [AV.bool false], Prod.snd c136))) (letV (IntKind.wrap .i64 (n96 + 1)) fun n140 => some (Sum.inl ([AV.bool b93, AV.int .i64 n140], Prod.snd c136))))) (some (Sum.inr (0, [AV.bool b93], Prod.snd c90))))
noncomputable def w7_L2 (x0 : AV) (x1 : AV) (v11 : AV) : Car → Option (Car ⊕ Nat × Car) := fun c14 => unc (Prod.fst c14) fun v15 l16 => asB v15 fun b17 => unc l16 fun v18 l19 => asI .i64 v18 fun n20 => un0 l19 (lenS v11 fun k21 => ifB (decide (n20 < (↑k21 : Int))) (idxA 1 v11 n20 (Prod.snd c14) fun v22 _x => loadS 1 false v22 (Prod.snd c14) fun v24 _x => asS v24 fun l26 => callS (orc vE) 21 [x0, AV.str l26] (Prod.snd c14) fun v27 st28 _x => unT v27 fun l30 => nthS l30 0 fun v31 => asI .i64 v31 fun n32 => unT v27 fun l33 => nthS l33 1 fun v34 => asS v34 fun l35 => unT v27 fun l36 => nthS l36 2 fun v37 => asI .i64 v37 fun n38 => idxA 1 v11 n20 st28 fun v39 _x => loadS 1 false v39 st28 fun v41 _x => asS v41 fun l43 => callS (orc vE) 22 [x1, AV.str l43] st28 fun v44 st45 _x => unT v44 fun l47 => nthS l47 0 fun v48 => asI .i64 v48 fun n49 => unT v44 fun l50 => nthS l50 1 fun v51 => asS v51 fun l52 => unT v44 fun l53 => nthS l53 2 fun v54 => asI .i64 v54 fun n55 => idxA 1 v11 n20 st45 fun v56 _x => loadS 1 false v56 st45 fun v58 _x => asS v58 fun l60 => callS (orc vE) 23 [x0, AV.str l60] st45 fun v61 st62 _x => unT v61 fun l64 => nthS l64 0 fun v65 => unT v61 fun l66 => nthS l66 1 fun v67 => asI .i64 v67 fun n68 => idxA 1 v11 n20 st62 fun v69 _x => loadS 1 false v69 st62 fun v71 _x => asS v71 fun l73 => callS (orc vE) 24 [x1, AV.str l73] st62 fun v74 st75 _x => unT v74 fun l77 => nthS l77 0 fun v78 => unT v74 fun l79 => nthS l79 1 fun v80 => asI .i64 v80 fun n81 => bindO (ifB (n32 != n49) (some ([AV.bool true], st75)) (ifB (!l35 == l52) (some ([AV.bool true], st75)) (ifB (n38 != n55) (some ([AV.bool true], st75)) (ifB (n68 != n81) (some ([AV.bool true], st75)) (callS (orc vE) 25 [v65, v78] st75 fun v82 st83 _x => asB v82 fun b85 => some ([AV.bool !b85], st83)))))) fun c86 => unc (Prod.fst c86) fun v87 l88 => asB v87 fun b89 => un0 l88 (ifB b89 (some (Sum.inr (1, [AV.bool false], Prod.snd c86))) (bindO (loopO (w7_L1 x0 x1 v11 n20 v78) ([AV.bool b17, AV.int .i64 0], Prod.snd c86)) fun c141 => unc (Prod.fst (Prod.snd c141)) fun v142 l143 => asB v142 fun b144 => un0 l143 (sel2 (Prod.fst c141) (letV (IntKind.wrap .i64 (n20 + 1)) fun n145 => some (Sum.inl ([AV.bool b144, AV.int .i64 n145], Prod.snd (Prod.snd c141)))) fun _x => some (Sum.inr (1, [AV.bool b144], Prod.snd (Prod.snd c141))))))) (some (Sum.inr (0, [AV.bool b17], Prod.snd c14))))
noncomputable def w7_L3 (v1 : AV) : Car → Option (Car ⊕ Nat × Car) := fun c151 => unc (Prod.fst c151) fun v152 l153 => asI .i64 v152 fun n154 => un0 l153 (lenS v1 fun k155 => ifB (decide (n154 < (↑k155 : Int))) (idxA 1 v1 n154 (Prod.snd c151) fun v156 _x => storeS (orc vE) 1 v156 (AV.str [63]) [AV.str [63]] (Prod.snd c151) fun _x st159 _x_1 => letV (IntKind.wrap .i64 (n154 + 1)) fun n161 => some (Sum.inl ([AV.int .i64 n161], st159))) (some (Sum.inr (0, [], Prod.snd c151))))
noncomputable def w7 : AV → AV → AV → St → Option (AV × St) := fun x0 x1 x2 st => asS x2 fun l0 => callS (orc vE) 18 [x0] st fun v1 st2 _x => callS (orc vE) 20 [x1] st2 fun v4 st5 _x => callS (orc vE) 19 [v1, v4] st5 fun v7 st8 _x => asB v7 fun b10 => ifB (!b10) (some (AV.bool false, st8)) (planS (orc vE) (rowAnyP (TI.mk U.str 1 16 [AV.str []] false false) 9 (AV.sl 1 [AV.str l0] Perm.shut) v1) st8 fun v11 st12 _x => bindO (loopO (w7_L2 x0 x1 v11) ([AV.bool false, AV.int .i64 0], st12)) fun c147 => unc (Prod.fst (Prod.snd c147)) fun v148 l149 => asB v148 fun b150 => un0 l149 (sel2 (Prod.fst c147) (bindO (loopO (w7_L3 v1) ([AV.int .i64 0], Prod.snd (Prod.snd c147))) fun c162 => un0 (Prod.fst (Prod.snd c162)) (some (AV.bool true, Prod.snd (Prod.snd c162)))) fun _x => some (AV.bool b150, Prod.snd (Prod.snd c147))))
theorem w7_eq (x0 x1 x2 : AV) (st : St) : wideS vE 7 [x0, x1, x2] st = w7 x0 x1 x2 st := by kernel_rfl
end Go.Proofs.YtkknkhniadiapaaDoor.Vm
namespace Go.Proofs.YtkknkhniadiapaaDoor.Vm
open Go Go.VM Go.Proofs Go.Store Go.Lib T
theorem callS_strip {β : Type} {E : Env} {f : FuncId} {args args' : List AV} {v : AV} (st : St) (K : Kv β) (hf : E.full f = false) (hs : args.map strip = args') (hb : bares args' = true) (h : (orc E).bare f args' = some v) :
    callS (orc E) f args st K = K v st q0 := by
  have h1 : (bares (args.map strip) && !(orc E).full f) = true := by
    rw [hs, hb]
    show (true && !E.full f) = true
    rw [hf]; rfl
  unfold callS outS callO
  rw [h1, hs, h]
  rfl
theorem own_strip {st : St} {z : Nat} {e : TypeId} {v : AV} {es : List AV} (h : Own st z e v es) : ∃ x, strip v = x ∧ IsSl z x es := by
  rcases h with ⟨_, hl, ⟨rfl | rfl, rfl⟩ | rfl | ⟨k, rfl, _, _⟩⟩
  · exact ⟨.nils, rfl, IsSl.nils⟩
  · exact ⟨.es, rfl, IsSl.emp⟩
  · exact ⟨.sl z es .shut, rfl, IsSl.shut hl⟩
  · exact ⟨.sl z es .wide, rfl, IsSl.wide hl⟩
section
variable {x y : AV}
theorem tl1 {β : Type} (v : AV) (l : List AV) (K : AV → Option β) : bindO (takeO 1 false (v :: l)) K = K v := rfl
theorem texts_loop {a b : List B} (hx : IsSl 1 x (a.map AV.str)) (hy : IsSl 1 y (b.map AV.str)) (hl : a.length = b.length) (st : St) : ∀ (m : List B) (i : Nat), a.drop i = m →
    ∃ r c, loopO (g19_L1 x y) ([.bool false, .int .i64 (i : Int)], st) = some (r, [.bool c], st) ∧ (m = b.drop i → r = 0) ∧ (m ≠ b.drop i → r = 1 ∧ c = false)
  | [], i, hd => by
    have := List.drop_eq_nil_iff.1 hd
    have q : ¬ (i : Int) < ((a.map AV.str).length : Int) := by rw [List.length_map]; omega
    refine ⟨0, false, loopO_inr ?_, fun _ => rfl, fun h => absurd (List.drop_eq_nil_iff.2 (by omega)).symm h⟩
    simp only [g19_L1, unc_cons, asI_int, asB_bool, un0_nil, hx.len, ifB_decide, if_neg q]
  | u :: m, i, hd => by
    obtain ⟨hg, hdr, hlt⟩ := drop_cons hd
    have q : (i : Int) < ((a.map AV.str).length : Int) := by rw [List.length_map]; omega
    obtain ⟨w, hw⟩ : ∃ w, b[i]? = some w := ⟨b[i], List.getElem?_eq_getElem (by omega)⟩
    have hbd : b.drop i = w :: b.drop (i + 1) := by
      have hi : i < b.length := by omega
      rw [List.drop_eq_getElem_cons hi]
      rw [List.getElem?_eq_getElem hi] at hw
      cases hw; rfl
    have hx2 : (a.map AV.str)[i]? = some (.str u) := by rw [List.getElem?_map, hg]; rfl
    have hy2 : (b.map AV.str)[i]? = some (.str w) := by rw [List.getElem?_map, hw]; rfl
    have ix : ∀ {β : Type} (K : AV → List Nat → Option β), idxA 1 x (i : Int) st K = K (.ip [.str u]) [] := fun K => hx.idx hx2 st K
    have iy : ∀ {β : Type} (K : AV → List Nat → Option β), idxA 1 y (i : Int) st K = K (.ip [.str w]) [] := fun K => hy.idx hy2 st K
    have hw1 : IntKind.wrap .i64 ((i : Int) + 1) = ((i + 1 : Nat) : Int) := wrapA1 (by have := hx.1; rw [List.length_map] at this; omega)
    by_cases huw : u = w
    · obtain ⟨r, c, e, h1, h2⟩ := texts_loop hx hy hl st m (i + 1) hdr
      have hb : (u == w) = true := beq_iff_eq.2 huw
      refine ⟨r, c, (loopO_inl ?_).trans e, fun h => h1 ?_, fun h => h2 fun h' => h ?_⟩
      · simp only [g19_L1, unc_cons, asI_int, asB_bool, un0_nil, hx.len, ifB_decide, if_pos q, ix, iy, loadS_ip, tl1, asS_str, hb, Bool.not_true, ifB_false, letV_eq, hw1]
      · rw [hbd] at h; injection h
      · rw [hbd, h', huw]
    · have hb : (u == w) = false := beq_eq_false_iff_ne.2 huw
      refine ⟨1, false, loopO_inr ?_, fun h => ?_, fun _ => ⟨rfl, rfl⟩⟩
      · simp only [g19_L1, unc_cons, asI_int, asB_bool, un0_nil, hx.len, ifB_decide, if_pos q, ix, iy, loadS_ip, tl1, asS_str, hb, Bool.not_false, ifB_true]
      · rw [hbd] at h; injection h with h _; exact absurd h huw
theorem texts_ok {a b : List B} (hx : IsSl 1 x (a.map AV.str)) (hy : IsSl 1 y (b.map AV.str)) : (orc vE).bare 19 [x, y] = some (.bool (decide (a = b))) := by
  refine bare_of rfl ((g19_eq _ _).trans ?_)
  by_cases hl : a.length = b.length
  · obtain ⟨r, c, e, h1, h2⟩ := texts_loop hx hy hl (St.mk 0 0 Tr.leaf) a 0 rfl
    have e : loopO (g19_L1 x y) ([.bool false, .int .i64 0], St.mk 0 0 Tr.leaf) = _ := e
    have q : ((a.map AV.str).length : Int) = ((b.map AV.str).length : Int) := by rw [List.length_map, List.length_map, hl]
    by_cases hab : a = b
    · have hr := h1 hab
      subst hr
      simp only [g19, hx.len, hy.len, ifB_bne, if_pos q, e, bindO_ok, unc_cons, asB_bool, un0_nil, sel2_zero, decide_eq_true hab]
    · obtain ⟨hr, hc⟩ := h2 hab
      subst hr; subst hc
      simp only [g19, hx.len, hy.len, ifB_bne, if_pos q, e, bindO_ok, unc_cons, asB_bool, un0_nil, sel2_one, decide_eq_false hab]
  · have q : ¬ ((a.map AV.str).length : Int) = ((b.map AV.str).length : Int) := by rw [List.length_map, List.length_map]; omega
    have hab : a ≠ b := fun h => hl (by rw [h])
    simp only [g19, hx.len, hy.len, ifB_bne, if_neg q, decide_eq_false hab]
def inV (n : Int) : AV := .int .i64 n
theorem ints_loop {a b : List Int} (hx : IsSl 1 x (a.map inV)) (hy : IsSl 1 y (b.map inV)) (hl : a.length = b.length) (st : St) : ∀ (m : List Int) (i : Nat), a.drop i = m →
    ∃ r c, loopO (g25_L1 x y) ([.bool false, .int .i64 (i : Int)], st) = some (r, [.bool c], st) ∧ (m = b.drop i → r = 0) ∧ (m ≠ b.drop i → r = 1 ∧ c = false)
  | [], i, hd => by
    have := List.drop_eq_nil_iff.1 hd
    have q : ¬ (i : Int) < ((a.map inV).length : Int) := by rw [List.length_map]; omega
    refine ⟨0, false, loopO_inr ?_, fun _ => rfl, fun h => absurd (List.drop_eq_nil_iff.2 (by omega)).symm h⟩
    simp only [g25_L1, unc_cons, asI_int, asB_bool, un0_nil, hx.len, ifB_decide, if_neg q]
  | u :: m, i, hd => by
    obtain ⟨hg, hdr, hlt⟩ := drop_cons hd
    have q : (i : Int) < ((a.map inV).length : Int) := by rw [List.length_map]; omega
    obtain ⟨w, hw⟩ : ∃ w, b[i]? = some w := ⟨b[i], List.getElem?_eq_getElem (by omega)⟩
    have hbd : b.drop i = w :: b.drop (i + 1) := by
      have hi : i < b.length := by omega
      rw [List.drop_eq_getElem_cons hi]
      rw [List.getElem?_eq_getElem hi] at hw
      cases hw; rfl
    have hx2 : (a.map inV)[i]? = some (inV u) := by rw [List.getElem?_map, hg]; rfl
    have hy2 : (b.map inV)[i]? = some (inV w) := by rw [List.getElem?_map, hw]; rfl
    have ix : ∀ {β : Type} (K : AV → List Nat → Option β), idxA 1 x (i : Int) st K = K (.ip [.int .i64 u]) [] := fun K => hx.idx hx2 st K
    have iy : ∀ {β : Type} (K : AV → List Nat → Option β), idxA 1 y (i : Int) st K = K (.ip [.int .i64 w]) [] := fun K => hy.idx hy2 st K
    have hw1 : IntKind.wrap .i64 ((i : Int) + 1) = ((i + 1 : Nat) : Int) := wrapA1 (by have := hx.1; rw [List.length_map] at this; omega)
    by_cases huw : u = w
    · obtain ⟨r, c, e, h1, h2⟩ := ints_loop hx hy hl st m (i + 1) hdr
      refine ⟨r, c, (loopO_inl ?_).trans e, fun h => h1 ?_, fun h => h2 fun h' => h ?_⟩
      · simp only [g25_L1, unc_cons, asI_int, asB_bool, un0_nil, hx.len, ifB_decide, if_pos q, ix, iy, loadS_ip, tl1, ifB_bne, if_pos huw, letV_eq, hw1]
      · rw [hbd] at h; injection h
      · rw [hbd, h', huw]
    · refine ⟨1, false, loopO_inr ?_, fun h => ?_, fun _ => ⟨rfl, rfl⟩⟩
      · simp only [g25_L1, unc_cons, asI_int, asB_bool, un0_nil, hx.len, ifB_decide, if_pos q, ix, iy, loadS_ip, tl1, ifB_bne, if_neg huw]
      · rw [hbd] at h; injection h with h _; exact absurd h huw
theorem ints_ok {a b : List Int} (hx : IsSl 1 x (a.map inV)) (hy : IsSl 1 y (b.map inV)) : (orc vE).bare 25 [x, y] = some (.bool (decide (a = b))) := by
  refine bare_of rfl ((g25_eq _ _).trans ?_)
  by_cases hl : a.length = b.length
  · obtain ⟨r, c, e, h1, h2⟩ := ints_loop hx hy hl (St.mk 0 0 Tr.leaf) a 0 rfl
    have e : loopO (g25_L1 x y) ([.bool false, .int .i64 0], St.mk 0 0 Tr.leaf) = _ := e
    have q : ((a.map inV).length : Int) = ((b.map inV).length : Int) := by rw [List.length_map, List.length_map, hl]
    by_cases hab : a = b
    · have hr := h1 hab
      subst hr
      simp only [g25, hx.len, hy.len, ifB_bne, if_pos q, e, bindO_ok, unc_cons, asB_bool, un0_nil, sel2_zero, decide_eq_true hab]
    · obtain ⟨hr, hc⟩ := h2 hab
      subst hr; subst hc
      simp only [g25, hx.len, hy.len, ifB_bne, if_pos q, e, bindO_ok, unc_cons, asB_bool, un0_nil, sel2_one, decide_eq_false hab]
  · have q : ¬ ((a.map inV).length : Int) = ((b.map inV).length : Int) := by rw [List.length_map, List.length_map]; omega
    have hab : a ≠ b := fun h => hl (by rw [h])
    simp only [g25, hx.len, hy.len, ifB_bne, if_neg q, decide_eq_false hab]
end
end Go.Proofs.YtkknkhniadiapaaDoor.Vm
namespace Go.Proofs.YtkknkhniadiapaaDoor.Vm
open Go Go.VM Go.Proofs
noncomputable def g74_L1 (l0 : List UInt8) (n1 : Int) (n26 : Int) : Car → Option (Car ⊕ Nat × Car) := fun c32 => unc (Prod.fst c32) fun v33 l34 => asI .i64 v33 fun n35 => unc l34 fun v36 l37 => asI .i64 v36 fun n38 => un0 l37 (ifB (decide (n38 < n26)) (bindO (letV (IntKind.wrap .i64 (n1 + n38)) fun n39 => idxStr l0 n39 fun c40 => ifB (decide ((↑(UInt8.toNat c40) : Int) < 128)) (some ([AV.bool true], Prod.snd c32)) (letV (IntKind.wrap .i64 (n1 + n38)) fun n41 => idxStr l0 n41 fun c42 => some ([AV.bool (decide ((↑(UInt8.toNat c42) : Int) > 191))], Prod.snd c32))) fun c43 => unc (Prod.fst c43) fun v44 l45 => asB v44 fun b46 => un0 l45 (ifB b46 (some (Sum.inr (1, [AV.int .i64 0], Prod.snd c43))) (letV (IntKind.wrap .i64 (n38 + 1)) fun n47 => some (Sum.inl ([AV.int .i64 n35, AV.int .i64 n47], Prod.snd c43))))) (some (Sum.inr (0, [AV.int .i64 n35], Prod.snd c32))))
noncomputable def g74 : AV → AV → Option AV := fun x0 x1 => asS x0 fun l0 => asI .i64 x1 fun n1 => idxStr l0 n1 fun c2 => ifB (decide ((↑(UInt8.toNat c2) : Int) < 128)) (some (AV.int .i64 1)) (bindO (ifB (decide ((↑(UInt8.toNat c2) : Int) ≥ 194)) (some ([AV.bool (decide ((↑(UInt8.toNat c2) : Int) ≤ 223))], St.mk 0 0 Tr.leaf)) (some ([AV.bool false], St.mk 0 0 Tr.leaf))) fun c3 => unc (Prod.fst c3) fun v4 l5 => asB v4 fun b6 => un0 l5 (bindO (ifB b6 (some ([AV.int .i64 2], Prod.snd c3)) (bindO (ifB (decide ((↑(UInt8.toNat c2) : Int) ≥ 224)) (some ([AV.bool (decide ((↑(UInt8.toNat c2) : Int) ≤ 239))], Prod.snd c3)) (some ([AV.bool false], Prod.snd c3))) fun c7 => unc (Prod.fst c7) fun v8 l9 => asB v8 fun b10 => un0 l9 (bindO (ifB b10 (some ([AV.int .i64 3], Prod.snd c7)) (bindO (ifB (decide ((↑(UInt8.toNat c2) : Int) ≥ 240)) (some ([AV.bool (decide ((↑(UInt8.toNat c2) : Int) ≤ 244))], Prod.snd c7)) (some ([AV.bool false], Prod.snd c7))) fun c11 => unc (Prod.fst c11) fun v12 l13 => asB v12 fun b14 => un0 l13 (bindO (ifB b14 (some ([AV.int .i64 4], Prod.snd c11)) (some ([AV.int .i64 0], Prod.snd c11))) fun c15 => unc (Prod.fst c15) fun v16 l17 => asI .i64 v16 fun n18 => un0 l17 (some ([AV.int .i64 n18], Prod.snd c15))))) fun c19 => unc (Prod.fst c19) fun v20 l21 => asI .i64 v20 fun n22 => un0 l21 (some ([AV.int .i64 n22], Prod.snd c19))))) fun c23 => unc (Prod.fst c23) fun v24 l25 => asI .i64 v24 fun n26 => un0 l25 (bindO (ifB (n26 == 0) (some ([AV.bool true], Prod.snd c23)) (letV (IntKind.wrap .i64 (n1 + n26)) fun n27 => some ([AV.bool (decide (n27 > (↑(List.length l0) : Int)))], Prod.snd c23))) fun c28 => unc (Prod.fst c28) fun v29 l30 => asB v29 fun b31 => un0 l30 (ifB b31 (some (AV.int .i64 0)) (bindO (loopO (g74_L1 l0 n1 n26) ([AV.int .i64 0, AV.int .i64 1], Prod.snd c28)) fun c48 => unc (Prod.fst (Prod.snd c48)) fun v49 l50 => asI .i64 v49 fun n51 => un0 l50 (sel2 (Prod.fst c48) (letV (IntKind.wrap .i64 (n1 + 1)) fun n52 => idxStr l0 n52 fun c53 => bindO (ifB ((↑(UInt8.toNat c2) : Int) == 224) (ifB (decide ((↑(UInt8.toNat c53) : Int) < 160)) (some ([AV.bool true], Prod.snd (Prod.snd c48))) (ifB ((↑(UInt8.toNat c2) : Int) == 237) (ifB (decide ((↑(UInt8.toNat c53) : Int) > 159)) (some ([AV.bool true], Prod.snd (Prod.snd c48))) (ifB ((↑(UInt8.toNat c2) : Int) == 240) (ifB (decide ((↑(UInt8.toNat c53) : Int) < 144)) (some ([AV.bool true], Prod.snd (Prod.snd c48))) (ifB ((↑(UInt8.toNat c2) : Int) == 244) (some ([AV.bool (decide ((↑(UInt8.toNat c53) : Int) > 143))], Prod.snd (Prod.snd c48))) (some ([AV.bool false], Prod.snd (Prod.snd c48))))) (ifB ((↑(UInt8.toNat c2) : Int) == 244) (some ([AV.bool (decide ((↑(UInt8.toNat c53) : Int) > 143))], Prod.snd (Prod.snd c48))) (some ([AV.bool false], Prod.snd (Prod.snd c48)))))) (ifB ((↑(UInt8.toNat c2) : Int) == 240) (ifB (decide ((↑(UInt8.toNat c53) : Int) < 144)) (some ([AV.bool true], Prod.snd (Prod.snd c48))) (ifB ((↑(UInt8.toNat c2) : Int) == 244) (some ([AV.bool (decide ((↑(UInt8.toNat c53) : Int) > 143))], Prod.snd (Prod.snd c48))) (some ([AV.bool false], Prod.snd (Prod.snd c48))))) (ifB ((↑(UInt8.toNat c2) : Int) == 244) (some ([AV.bool (decide ((↑(UInt8.toNat c53) : Int) > 143))], Prod.snd (Prod.snd c48))) (some ([AV.bool false], Prod.snd (Prod.snd c48))))))) (ifB ((↑(UInt8.toNat c2) : Int) == 237) (ifB (decide ((↑(UInt8.toNat c53) : Int) > 159)) (some ([AV.bool true], Prod.snd (Prod.snd c48))) (ifB ((↑(UInt8.toNat c2) : Int) == 240) (ifB (decide ((↑(UInt8.toNat c53) : Int) < 144)) (some ([AV.bool true], Prod.snd (Prod.snd c48))) (ifB ((↑(UInt8.toNat c2) : Int) == 244) (some ([AV.bool (decide ((↑(UInt8.toNat c53) : Int) > 143))], Prod.snd (Prod.snd c48))) (some ([AV.bool false], Prod.snd (Prod.snd c48))))) (ifB ((↑(UInt8.toNat c2) : Int) == 244) (some ([AV.bool (decide ((↑(UInt8.toNat c53) : Int) > 143))], Prod.snd (Prod.snd c48))) (some ([AV.bool false], Prod.snd (Prod.snd c48)))))) (ifB ((↑(UInt8.toNat c2) : Int) == 240) (ifB (decide ((↑(UInt8.toNat c53) : Int) < 144)) (some ([AV.bool true], Prod.snd (Prod.snd c48))) (ifB ((↑(UInt8.toNat c2) : Int) == 244) (some ([AV.bool (decide ((↑(UInt8.toNat c53) : Int) > 143))], Prod.snd (Prod.snd c48))) (some ([AV.bool false], Prod.snd (Prod.snd c48))))) (ifB ((↑(UInt8.toNat c2) : Int) == 244) (some ([AV.bool (decide ((↑(UInt8.toNat c53) : Int) > 143))], Prod.snd (Prod.snd c48))) (some ([AV.bool false], Prod.snd (Prod.snd c48))))))) fun c54 => unc (Prod.fst c54) fun v55 l56 => asB v55 fun b57 => un0 l56 (ifB b57 (some (AV.int .i64 0)) (some (AV.int .i64 n26)))) fun _x => some (AV.int .i64 n51)))))))
theorem g74_eq (x0 x1 : AV) : bareS vE 74 [x0, x1] = g74 x0 x1 := by kernel_rfl
noncomputable def g73_L1 (l0 : List UInt8) : Car → Option (Car ⊕ Nat × Car) := fun c1 => unc (Prod.fst c1) fun v2 l3 => unc l3 fun v4 l5 => asI .i64 v4 fun n6 => unc l5 fun v7 l8 => asI .i64 v7 fun n9 => un0 l8 (ifB (decide (n9 < (↑(List.length l0) : Int))) (bindO (bindO (idxStr l0 n9 fun c10 => ifB ((↑(UInt8.toNat c10) : Int) != 10) (idxStr l0 n9 fun c11 => some ([AV.bool ((↑(UInt8.toNat c11) : Int) != 13)], Prod.snd c1)) (some ([AV.bool false], Prod.snd c1))) fun c12 => unc (Prod.fst c12) fun v13 l14 => asB v13 fun b15 => un0 l14 (ifB b15 (some (Sum.inl ([v2, AV.int .i64 n9, AV.int .i64 n6], Prod.snd c12))) (appS 2 16 98 v2 [AV.agg [AV.int .i64 n6, AV.int .i64 n9]] (Prod.snd c12) fun v17 st18 _x => bindO (idxStr l0 n9 fun c20 => ifB ((↑(UInt8.toNat c20) : Int) == 13) (letV (IntKind.wrap .i64 (n9 + 1)) fun n21 => ifB (decide (n21 < (↑(List.length l0) : Int))) (letV (IntKind.wrap .i64 (n9 + 1)) fun n22 => idxStr l0 n22 fun c23 => some ([AV.bool ((↑(UInt8.toNat c23) : Int) == 10)], st18)) (some ([AV.bool false], st18))) (some ([AV.bool false], st18))) fun c24 => unc (Prod.fst c24) fun v25 l26 => asB v25 fun b27 => un0 l26 (bindO (ifB b27 (letV (IntKind.wrap .i64 (n9 + 1)) fun n28 => some ([AV.int .i64 n28], Prod.snd c24)) (some ([AV.int .i64 n9], Prod.snd c24))) fun c29 => unc (Prod.fst c29) fun v30 l31 => asI .i64 v30 fun n32 => un0 l31 (letV (IntKind.wrap .i64 (n32 + 1)) fun n33 => some (Sum.inl ([v17, AV.int .i64 n32, AV.int .i64 n33], Prod.snd c29))))))) fun c34 => onSum c34 fun c35 => unc (Prod.fst c35) fun v36 l37 => unc l37 fun v38 l39 => asI .i64 v38 fun n40 => unc l39 fun v41 l42 => asI .i64 v41 fun n43 => un0 l42 (letV (IntKind.wrap .i64 (n40 + 1)) fun n44 => some (Sum.inl ([v36, AV.int .i64 n43, AV.int .i64 n44], Prod.snd c35)))) (some (Sum.inr (0, [v2, AV.int .i64 n6], Prod.snd c1))))
noncomputable def g73 : AV → Option AV := fun x0 => asS x0 fun l0 => bindO (loopO (g73_L1 l0) ([AV.nils, AV.int .i64 0, AV.int .i64 0], St.mk 0 0 Tr.leaf)) fun c45 => unc (Prod.fst (Prod.snd c45)) fun v46 l47 => unc l47 fun v48 l49 => asI .i64 v48 fun n50 => un0 l49 (appS 2 16 98 v46 [AV.agg [AV.int .i64 n50, AV.int .i64 (↑(List.length l0) : Int)]] (Prod.snd (Prod.snd c45)) fun v52 st53 _x => frzS st53 0 (oneOf [v52]) fun v55 => some v55)
theorem g73_eq (x0 : AV) : bareS vE 73 [x0] = g73 x0 := by kernel_rfl
noncomputable def g63_L1 (l0 : List UInt8) (n8 : Int) (c13 : Car) : Car → Option (Car ⊕ Nat × Car) := fun c36 => unc (Prod.fst c36) fun v37 l38 => asI .i64 v37 fun n39 => unc l38 fun v40 l41 => asI .i64 v40 fun n42 => unc l41 fun v43 l44 => asI .i64 v43 fun n45 => unc l44 fun v46 l47 => asI .i64 v46 fun n48 => un0 l47 (ifB (n45 == n8) (some (Sum.inr (0, [AV.int .i64 n48, AV.int .i64 0], Prod.snd c36))) (loadS 1 false (AV.mp (St.h (Prod.snd c13)) 1) (Prod.snd c36) fun v49 _x => asI .i64 v49 fun n51 => ifB (decide (n48 ≥ n51)) (some (Sum.inr (0, [AV.int .i64 0, AV.int .i64 60], Prod.snd c36))) (letV (IntKind.wrap .i64 (n45 + 1)) fun n52 => callS (orc vE) 74 [AV.str l0, AV.int .i64 n48] (Prod.snd c36) fun v53 st54 _x => asI .i64 v53 fun n56 => bindO (ifB (n56 == 4) (letV (IntKind.wrap .i64 (n52 + 1)) fun n57 => some ([AV.int .i64 n57], st54)) (some ([AV.int .i64 n52], st54))) fun c58 => unc (Prod.fst c58) fun v59 l60 => asI .i64 v59 fun n61 => un0 l60 (callS (orc vE) 74 [AV.str l0, AV.int .i64 n48] (Prod.snd c58) fun v62 st63 _x => asI .i64 v62 fun n65 => letV (if 1 > n65 then 1 else n65) fun n66 => letV (IntKind.wrap .i64 (n48 + n66)) fun n67 => some (Sum.inl ([AV.int .i64 n39, AV.int .i64 n42, AV.int .i64 n61, AV.int .i64 n67], st63))))))
noncomputable def g63 : AV → AV → Option AV := fun x0 x1 => asS x0 fun l0 => un_ii x1 fun n5 n8 => (callS (orc vE) 73 [AV.str l0] (St.mk 0 0 Tr.leaf) fun v9 st10 _x => bindO (ifB (decide (n5 < 0)) (some ([AV.bool true], st10)) (lenS v9 fun k12 => ifB (decide (n5 ≥ (↑k12 : Int))) (some ([AV.bool true], st10)) (some ([AV.bool (decide (n8 < 0))], st10)))) fun c13 => unc (Prod.fst c13) fun v14 l15 => asB v14 fun b16 => un0 l15 (ifB b16 (some (AV.tup [AV.int .i64 0, AV.int .i64 60])) (idxA 2 v9 n5 (Prod.snd c13) fun v17 _x => loadS 2 true v17 (Prod.snd c13) fun v19 _x => un_ii v19 fun n25 n28 => (letSt (St.add (Prod.snd c13) (VM.Obj.cells 98 [AV.int .i64 0, AV.int .i64 0])) fun st29 => storeS (orc vE) 2 (AV.mp (St.h (Prod.snd c13)) 0) (AV.agg [AV.int .i64 n25, AV.int .i64 n28]) [AV.int .i64 n25, AV.int .i64 n28] st29 fun _x st31 _x_1 => loadS 1 false (AV.mp (St.h (Prod.snd c13)) 0) st31 fun v33 _x => asI .i64 v33 fun n35 => bindO (loopO (g63_L1 l0 n8 c13) ([AV.int .i64 0, AV.int .i64 0, AV.int .i64 0, AV.int .i64 n35], st31)) fun c68 => unc (Prod.fst (Prod.snd c68)) fun v69 l70 => asI .i64 v69 fun n71 => unc l70 fun v72 l73 => asI .i64 v72 fun n74 => un0 l73 (some (AV.tup [AV.int .i64 n71, AV.int .i64 n74]))))))
theorem g63_eq (x0 x1 : AV) : bareS vE 63 [x0, x1] = g63 x0 x1 := by kernel_rfl
noncomputable def g64 : AV → AV → Option AV := fun x0 x1 => un_ii x0 fun n4 n7 => (un_ii x1 fun n12 n15 => (bindO (ifB (decide (n4 < n12)) (some ([AV.bool true], St.mk 0 0 Tr.leaf)) (ifB (n4 == n12) (some ([AV.bool (decide (n7 < n15))], St.mk 0 0 Tr.leaf)) (some ([AV.bool false], St.mk 0 0 Tr.leaf)))) fun c16 => unc (Prod.fst c16) fun v17 l18 => asB v17 fun b19 => un0 l18 (some (AV.bool b19))))
theorem g64_eq (x0 x1 : AV) : bareS vE 64 [x0, x1] = g64 x0 x1 := by kernel_rfl
noncomputable def g50 : AV → AV → Option AV := fun x0 x1 => asS x0 fun l0 => un_iiii x1 fun n5 n8 n11 n14 => (callS (orc vE) 63 [AV.str l0, AV.agg [AV.int .i64 n5, AV.int .i64 n8]] (St.mk 1 0 (Tr.node (some (VM.Obj.cells 98 [AV.int .i64 0, AV.int .i64 0])) Tr.leaf Tr.leaf)) fun v16 st17 _x => unT v16 fun l19 => nthS l19 0 fun v20 => asI .i64 v20 fun n21 => unT v16 fun l22 => nthS l22 1 fun v23 => asI .i64 v23 fun n24 => ifB (n24 != 0) (storeS (orc vE) 2 (AV.mp 0 0) (AV.agg [AV.int .i64 0, AV.int .i64 0]) [AV.int .i64 0, AV.int .i64 0] st17 fun _x st27 _x_1 => loadS 2 true (AV.mp 0 0) st27 fun v29 _x => un_ii v29 fun n35 n38 => (some (AV.tup [AV.agg [AV.int .i64 n35, AV.int .i64 n38], AV.int .i64 n24]))) (callS (orc vE) 63 [AV.str l0, AV.agg [AV.int .i64 n11, AV.int .i64 n14]] st17 fun v40 st41 _x => unT v40 fun l43 => nthS l43 0 fun v44 => asI .i64 v44 fun n45 => unT v40 fun l46 => nthS l46 1 fun v47 => asI .i64 v47 fun n48 => ifB (n48 != 0) (storeS (orc vE) 2 (AV.mp 0 0) (AV.agg [AV.int .i64 0, AV.int .i64 0]) [AV.int .i64 0, AV.int .i64 0] st41 fun _x st51 _x_1 => loadS 2 true (AV.mp 0 0) st51 fun v53 _x => un_ii v53 fun n59 n62 => (some (AV.tup [AV.agg [AV.int .i64 n59, AV.int .i64 n62], AV.int .i64 n48]))) (callS (orc vE) 64 [AV.agg [AV.int .i64 n11, AV.int .i64 n14], AV.agg [AV.int .i64 n5, AV.int .i64 n8]] st41 fun v65 st66 _x => asB v65 fun b68 => ifB b68 (storeS (orc vE) 2 (AV.mp 0 0) (AV.agg [AV.int .i64 0, AV.int .i64 0]) [AV.int .i64 0, AV.int .i64 0] st66 fun _x st71 _x_1 => loadS 2 true (AV.mp 0 0) st71 fun v73 _x => un_ii v73 fun n79 n82 => (some (AV.tup [AV.agg [AV.int .i64 n79, AV.int .i64 n82], AV.int .i64 60]))) (storeS (orc vE) 2 (AV.mp 0 0) (AV.agg [AV.int .i64 n21, AV.int .i64 n45]) [AV.int .i64 n21, AV.int .i64 n45] st66 fun _x st85 _x_1 => loadS 2 true (AV.mp 0 0) st85 fun v87 _x => un_ii v87 fun n93 n96 => (some (AV.tup [AV.agg [AV.int .i64 n93, AV.int .i64 n96], AV.int .i64 0]))))))
theorem g50_eq (x0 x1 : AV) : bareS vE 50 [x0, x1] = g50 x0 x1 := by kernel_rfl
noncomputable def g51 : AV → AV → AV → Option AV := fun x0 x1 x2 => asS x0 fun l0 => un_ii x1 fun n5 n8 => (asS x2 fun l9 => uptoS n5 (List.length l0) fun k10 => letV (List.drop 0 (List.take k10 l0)) fun l11 => chk (Nat.ble (List.length l11 + List.length l9) 9223372036854775807) (letV (l11 ++ l9) fun l12 => uptoS n8 (List.length l0) fun k13 => letV (List.drop k13 (List.take (List.length l0) l0)) fun l14 => chk (Nat.ble (List.length l12 + List.length l14) 9223372036854775807) (letV (l12 ++ l14) fun l15 => some (AV.str l15))))
theorem g51_eq (x0 x1 x2 : AV) : bareS vE 51 [x0, x1, x2] = g51 x0 x1 x2 := by kernel_rfl
noncomputable def g37_L1 (x1 : AV) : Car → Option (Car ⊕ Nat × Car) := fun c1 => unc (Prod.fst c1) fun v2 l3 => asS v2 fun l4 => unc l3 fun v5 l6 => asS v5 fun l7 => unc l6 fun v8 l9 => asI .i64 v8 fun n10 => unc l9 fun v11 l12 => asI .i64 v11 fun n13 => un0 l12 (lenS x1 fun k14 => ifB (decide (n13 < (↑k14 : Int))) (letSt (St.add (Prod.snd c1) (VM.Obj.cells 98 [AV.int .i64 0, AV.int .i64 0])) fun st16 => storeS (orc vE) 2 (AV.mp (St.h (Prod.snd c1)) 0) (AV.agg [AV.int .i64 0, AV.int .i64 (↑(List.length l4) : Int)]) [AV.int .i64 0, AV.int .i64 (↑(List.length l4) : Int)] st16 fun _x st18 _x_1 => idxA 6 x1 n13 st18 fun v20 _x => fldA 0 v20 fun v22 => loadS 1 false v22 st18 fun v23 _x => asB v23 fun b25 => bindO (ifB (!b25) (idxA 6 x1 n13 st18 fun v26 _x => fldA 1 v26 fun v28 => loadS 4 true v28 st18 fun v29 _x => un_iiii v29 fun n35 n38 n41 n44 => (callS (orc vE) 50 [AV.str l4, AV.agg [AV.int .i64 n35, AV.int .i64 n38, AV.int .i64 n41, AV.int .i64 n44]] st18 fun v45 st46 _x => unT v45 fun l48 => nthS l48 0 fun v49 => un_ii v49 fun n54 n57 => (unT v45 fun l58 => nthS l58 1 fun v59 => asI .i64 v59 fun n60 => letSt (St.add st46 (VM.Obj.cells 98 [AV.int .i64 0, AV.int .i64 0])) fun st61 => storeS (orc vE) 2 (AV.mp (St.h st46) 0) (AV.agg [AV.int .i64 n54, AV.int .i64 n57]) [AV.int .i64 n54, AV.int .i64 n57] st61 fun _x st63 _x_2 => ifB (n60 != 0) (some (Sum.inr (Sum.inr (1, [AV.str l4, AV.str [], AV.int .i64 n60], st63)))) (loadS 2 true (AV.mp (St.h st46) 0) st63 fun v65 _x => un_ii v65 fun n71 n74 => (storeS (orc vE) 2 (AV.mp (St.h (Prod.snd c1)) 0) (AV.agg [AV.int .i64 n71, AV.int .i64 n74]) [AV.int .i64 n71, AV.int .i64 n74] st63 fun _x st76 _x_3 => some (Sum.inl ([AV.str l7, AV.int .i64 n10], st76))))))) (some (Sum.inl ([AV.str l7, AV.int .i64 n10], st18)))) fun c78 => onSum c78 fun c79 => unc (Prod.fst c79) fun v80 l81 => asS v80 fun l82 => unc l81 fun v83 l84 => asI .i64 v83 fun n85 => un0 l84 (bindO (idxA 6 x1 n13 (Prod.snd c79) fun v86 _x => fldA 5 v86 fun v88 => loadS 1 false v88 (Prod.snd c79) fun v89 _x => asS v89 fun l91 => ifB (decide ((↑(List.length l91) : Int) > 65536)) (some ([AV.bool true], Prod.snd c79)) (loadS 1 false (AV.mp (St.h (Prod.snd c1)) 1) (Prod.snd c79) fun v92 _x => asI .i64 v92 fun n94 => loadS 1 false (AV.mp (St.h (Prod.snd c1)) 0) (Prod.snd c79) fun v95 _x => asI .i64 v95 fun n97 => letV (IntKind.wrap .i64 (n94 - n97)) fun n98 => letV (IntKind.wrap .i64 ((↑(List.length l4) : Int) - n98)) fun n99 => idxA 6 x1 n13 (Prod.snd c79) fun v100 _x => fldA 5 v100 fun v102 => loadS 1 false v102 (Prod.snd c79) fun v103 _x => asS v103 fun l105 => letV (IntKind.wrap .i64 (n99 + (↑(List.length l105) : Int))) fun n106 => some ([AV.bool (decide (n106 > 65536))], Prod.snd c79))) fun c107 => unc (Prod.fst c107) fun v108 l109 => asB v108 fun b110 => un0 l109 (ifB b110 (some (Sum.inr (1, [AV.str l4, AV.str [], AV.int .i64 40], Prod.snd c107))) (loadS 2 true (AV.mp (St.h (Prod.snd c1)) 0) (Prod.snd c107) fun v111 _x => un_ii v111 fun n117 n120 => (idxA 6 x1 n13 (Prod.snd c107) fun v121 _x => fldA 5 v121 fun v123 => loadS 1 false v123 (Prod.snd c107) fun v124 _x => asS v124 fun l126 => callS (orc vE) 51 [AV.str l4, AV.agg [AV.int .i64 n117, AV.int .i64 n120], AV.str l126] (Prod.snd c107) fun v127 st128 _x => asS v127 fun l130 => callS (orc vE) 36 [AV.str l130] st128 fun v131 st132 _x => asB v131 fun b134 => ifB (!b134) (some (Sum.inr (1, [AV.str l130, AV.str [], AV.int .i64 4], st132))) (letV (IntKind.wrap .i64 (n13 + 1)) fun n135 => some (Sum.inl ([AV.str l130, AV.str l82, AV.int .i64 n85, AV.int .i64 n135], st132)))))))) (some (Sum.inr (0, [AV.str l4, AV.str l7, AV.int .i64 n10], Prod.snd c1))))
noncomputable def g37 : AV → AV → Option AV := fun x0 x1 => asS x0 fun l0 => bindO (loopO (g37_L1 x1) ([AV.str l0, AV.str [], AV.int .i64 0, AV.int .i64 0], St.mk 0 0 Tr.leaf)) fun c136 => unc (Prod.fst (Prod.snd c136)) fun v137 l138 => asS v137 fun l139 => unc l138 fun v140 l141 => asS v140 fun l142 => unc l141 fun v143 l144 => asI .i64 v143 fun n145 => un0 l144 (sel2 (Prod.fst c136) (some (AV.tup [AV.str l139, AV.int .i64 0])) fun _x => some (AV.tup [AV.str l142, AV.int .i64 n145]))
theorem g37_eq (x0 x1 : AV) : bareS vE 37 [x0, x1] = g37 x0 x1 := by kernel_rfl
noncomputable def g35 : AV → Option AV := fun x0 => asI .i64 x0 fun n0 => bindO (ifB (decide (n0 ≥ 0)) (some ([AV.bool (decide (n0 ≤ 2147483647))], St.mk 0 0 Tr.leaf)) (some ([AV.bool false], St.mk 0 0 Tr.leaf))) fun c1 => unc (Prod.fst c1) fun v2 l3 => asB v2 fun b4 => un0 l3 (some (AV.bool b4))
theorem g35_eq (x0 : AV) : bareS vE 35 [x0] = g35 x0 := by kernel_rfl
end Go.Proofs.YtkknkhniadiapaaDoor.Vm
namespace Go.Proofs.YtkknkhniadiapaaDoor.Vm
open Go Go.VM Go.Proofs Go.Store Go.Lib Go.Lex
def lead (c : Nat) : Nat := if 194 ≤ c ∧ c ≤ 223 then 2 else if 224 ≤ c ∧ c ≤ 239 then 3 else if 240 ≤ c ∧ c ≤ 244 then 4 else 0
def contB (s : B) : Nat → Nat → Bool
  | _, 0 => true
  | a, m + 1 => (decide (128 ≤ (s.getD a 0).toNat) && decide ((s.getD a 0).toNat ≤ 191)) && contB s (a + 1) m
def badD (c d : Nat) : Bool := decide ((c = 224 ∧ d < 160) ∨ (c = 237 ∧ 159 < d) ∨ (c = 240 ∧ d < 144) ∨ (c = 244 ∧ 143 < d))
theorem szL_cont {s : B} {i : Nat} (hi : i < s.length) (h8 : ¬ (s.getD i 0).toNat < 128) : szL (s.drop i) = if lead (s.getD i 0).toNat = 0 ∨ s.length < i + lead (s.getD i 0).toNat then 0
    else if contB s (i + 1) (lead (s.getD i 0).toNat - 1) = false then 0 else if badD (s.getD i 0).toNat (s.getD (i + 1) 0).toNat = true then 0 else lead (s.getD i 0).toNat := by
  unfold szL
  rw [List.length_drop, getD_drop, getD_drop, getD_drop, getD_drop, Nat.add_zero]
  generalize (s.getD i 0).toNat = c at h8 ⊢
  generalize hd : (s.getD (i + 1) 0).toNat = d
  generalize hn : s.length = n at hi
  have e2 : i + 1 + 1 = i + 2 := rfl
  have e3 : i + 2 + 1 = i + 3 := rfl
  unfold szN lead badD
  rw [if_neg h8]
  by_cases q2 : 194 ≤ c ∧ c ≤ 223
  · simp only [if_pos q2, contB, hd, Bool.and_true]
    simp only [decide_eq_true_eq, Bool.and_eq_false_iff, decide_eq_false_iff_not]
    repeat' split
    all_goals omega
  · by_cases q3 : 224 ≤ c ∧ c ≤ 239
    · simp only [if_neg q2, if_pos q3, contB, hd, e2, Bool.and_true]
      generalize (s.getD (i + 2) 0).toNat = d2
      simp only [decide_eq_true_eq, Bool.and_eq_false_iff, decide_eq_false_iff_not]
      repeat' split
      all_goals omega
    · by_cases q4 : 240 ≤ c ∧ c ≤ 244
      · simp only [if_neg q2, if_neg q3, if_pos q4, contB, hd, e2, e3, Bool.and_true]
        generalize (s.getD (i + 2) 0).toNat = d2
        generalize (s.getD (i + 3) 0).toNat = d3
        simp only [decide_eq_true_eq, Bool.and_eq_false_iff, decide_eq_false_iff_not]
        repeat' split
        all_goals omega
      · simp only [if_neg q2, if_neg q3, if_neg q4, true_or, if_true]
theorem getD_el {s : B} {i : Nat} (h : i < s.length) : s.getD i 0 = s[i] := by rw [List.getD_eq_getElem?_getD, List.getElem?_eq_getElem h]; rfl
theorem size_loop {s : B} {i n : Nat} (hs : s.length ≤ 1000000) (hn : i + n ≤ s.length) (st : St) : ∀ (m k : Nat), k + m = n →
    loopO (g74_L1 s (i : Int) (n : Int)) ([.int .i64 0, .int .i64 (k : Int)], st) = some (if contB s (i + k) m = true then (0, [.int .i64 0], st) else (1, [.int .i64 0], st))
  | 0, k, h => by
    have q : ¬ (k : Int) < (n : Int) := by omega
    refine loopO_inr ?_
    simp only [g74_L1, unc_cons, asI_int, un0_nil, ifB_decide, if_neg q, contB, if_true]
  | m + 1, k, h => by
    have q : (k : Int) < (n : Int) := by omega
    have hl : i + k < s.length := by omega
    have hw : IntKind.wrap .i64 ((i : Int) + (k : Int)) = ((i + k : Nat) : Int) := wrapA (by omega)
    have hw1 : IntKind.wrap .i64 ((k : Int) + 1) = ((k + 1 : Nat) : Int) := wrapA1 (by omega)
    have hg := getD_el hl
    simp only [contB, hg]
    by_cases q1 : s[i + k].toNat < 128
    · have q1' : ((s[i + k].toNat : Nat) : Int) < 128 := by omega
      rw [decide_eq_false (show ¬ 128 ≤ s[i + k].toNat by omega)]
      refine loopO_inr ?_
      simp only [g74_L1, unc_cons, asI_int, un0_nil, ifB_decide, if_pos q, letV_eq, hw, idxStr_nat hl, if_pos q1', bindO_ok, asB_bool, ifB_true, Bool.false_and, Bool.false_eq_true, if_false]
    · have q1' : ¬ ((s[i + k].toNat : Nat) : Int) < 128 := by omega
      rw [decide_eq_true (show 128 ≤ s[i + k].toNat by omega)]
      by_cases q2 : s[i + k].toNat ≤ 191
      · have q2' : decide (((s[i + k].toNat : Nat) : Int) > 191) = false := decide_eq_false (by omega)
        rw [decide_eq_true q2]
        refine (loopO_inl (s' := ([.int .i64 0, .int .i64 ((k + 1 : Nat) : Int)], st)) ?_).trans ?_
        · simp only [g74_L1, unc_cons, asI_int, un0_nil, ifB_decide, if_pos q, letV_eq, hw, idxStr_nat hl, if_neg q1', bindO_ok, asB_bool, q2', ifB_false, hw1]
        · rw [size_loop hs hn st m (k + 1) (by omega)]
          simp only [Bool.and_self, Bool.true_and, Nat.add_assoc]
      · have q2' : decide (((s[i + k].toNat : Nat) : Int) > 191) = true := decide_eq_true (by omega)
        rw [decide_eq_false q2]
        refine loopO_inr ?_
        simp only [g74_L1, unc_cons, asI_int, un0_nil, ifB_decide, if_pos q, letV_eq, hw, idxStr_nat hl, if_neg q1', bindO_ok, asB_bool, q2', ifB_true, Bool.and_false, Bool.false_and, Bool.false_eq_true, if_false]
theorem lead_cases (c : Nat) : lead c = 0 ∨ lead c = 2 ∨ lead c = 3 ∨ lead c = 4 := by unfold lead; repeat' split
                                                                                       all_goals omega
theorem size_ok {s : B} {i : Nat} (hi : i < s.length) (hs : s.length ≤ 1000000) : (orc vE).bare 74 [.str s, .int .i64 (i : Int)] = some (.int .i64 (szL (s.drop i) : Int)) := by
  refine Goes.eq (Goes.bare rfl (Goes.step (g74_eq _ _) ?_))
  have hg := getD_el hi
  by_cases h8 : (s.getD i 0).toNat < 128
  · have hz : szL (s.drop i) = 1 := by
      unfold szL szN
      rw [getD_drop, Nat.add_zero, if_pos h8]
    rw [hg] at h8
    have q : ((s[i].toNat : Nat) : Int) < 128 := by omega
    rw [hz]
    simp only [g74, asS_str, asI_int, idxStr_nat hi, ifB_decide, if_pos q]
    exact Goes.some rfl
  rw [szL_cont hi h8]
  rw [hg] at h8 ⊢
  generalize hd : (s.getD (i + 1) 0).toNat = d
  generalize hc : s[i].toNat = c at h8
  have q : ¬ (c : Int) < 128 := by omega
  simp only [g74, asS_str, asI_int, idxStr_nat hi, hc, ifB_decide, if_neg q]
  refine Goes.bind (R := fun r => r = ([AV.bool (decide (194 ≤ c ∧ c ≤ 223))], S0)) ?_ ?_
  · by_cases h1 : 194 ≤ c
    · rw [if_pos (show (c : Int) ≥ 194 by omega)]
      exact Goes.some (congrArg (fun b => ([AV.bool b], S0)) (decide_eq_decide.2 (by omega)))
    · rw [if_neg (show ¬ (c : Int) ≥ 194 by omega)]
      exact Goes.some (congrArg (fun b => ([AV.bool b], S0)) (decide_eq_false (by omega)).symm)
  rintro r rfl
  simp only [unc_cons, asB_bool, un0_nil]
  refine Goes.bind (R := fun r => r = ([AV.int .i64 (lead c : Int)], S0)) ?_ ?_
  · by_cases q2 : 194 ≤ c ∧ c ≤ 223
    · rw [decide_eq_true q2]
      simp only [ifB_true]
      exact Goes.some (by unfold lead; rw [if_pos q2]; rfl)
    · rw [decide_eq_false q2]
      simp only [ifB_false]
      refine Goes.bind (R := fun r => r = ([AV.bool (decide (224 ≤ c ∧ c ≤ 239))], S0)) ?_ ?_
      · by_cases h1 : 224 ≤ c
        · rw [if_pos (show (c : Int) ≥ 224 by omega)]
          exact Goes.some (congrArg (fun b => ([AV.bool b], S0)) (decide_eq_decide.2 (by omega)))
        · rw [if_neg (show ¬ (c : Int) ≥ 224 by omega)]
          exact Goes.some (congrArg (fun b => ([AV.bool b], S0)) (decide_eq_false (by omega)).symm)
      rintro r rfl
      simp only [unc_cons, asB_bool, un0_nil]
      refine Goes.bind (R := fun r => r = ([AV.int .i64 (lead c : Int)], S0)) ?_ ?_
      · by_cases q3 : 224 ≤ c ∧ c ≤ 239
        · rw [decide_eq_true q3]
          simp only [ifB_true]
          exact Goes.some (by unfold lead; rw [if_neg q2, if_pos q3]; rfl)
        · rw [decide_eq_false q3]
          simp only [ifB_false]
          refine Goes.bind (R := fun r => r = ([AV.bool (decide (240 ≤ c ∧ c ≤ 244))], S0)) ?_ ?_
          · by_cases h1 : 240 ≤ c
            · rw [if_pos (show (c : Int) ≥ 240 by omega)]
              exact Goes.some (congrArg (fun b => ([AV.bool b], S0)) (decide_eq_decide.2 (by omega)))
            · rw [if_neg (show ¬ (c : Int) ≥ 240 by omega)]
              exact Goes.some (congrArg (fun b => ([AV.bool b], S0)) (decide_eq_false (by omega)).symm)
          rintro r rfl
          simp only [unc_cons, asB_bool, un0_nil]
          refine Goes.bind (R := fun r => r = ([AV.int .i64 (lead c : Int)], S0)) ?_ ?_
          · by_cases q4 : 240 ≤ c ∧ c ≤ 244
            · rw [decide_eq_true q4]
              simp only [ifB_true]
              exact Goes.some (by unfold lead; rw [if_neg q2, if_neg q3, if_pos q4]; rfl)
            · rw [decide_eq_false q4]
              simp only [ifB_false]
              exact Goes.some (by unfold lead; rw [if_neg q2, if_neg q3, if_neg q4]; rfl)
          · rintro r rfl
            simp only [unc_cons, asI_int, un0_nil]
            exact Goes.some rfl
      · rintro r rfl
        simp only [unc_cons, asI_int, un0_nil]
        exact Goes.some rfl
  rintro r rfl
  simp only [unc_cons, asI_int, un0_nil]
  have hl4 := lead_cases c
  refine Goes.bind (R := fun r => r = ([.bool (decide (lead c = 0 ∨ s.length < i + lead c))], S0)) ?_ ?_
  · by_cases h0 : lead c = 0
    · rw [h0]
      simp only [Int.natCast_zero, beq_self_eq_true, ifB_true]
      exact Goes.some (by simp)
    · have hw : IntKind.wrap .i64 ((i : Int) + (lead c : Int)) = ((i + lead c : Nat) : Int) := wrapA (by omega)
      simp only [ifB_beq, if_neg (show ¬ (lead c : Int) = 0 by omega), letV_eq, hw]
      refine Goes.some ?_
      by_cases hl : s.length < i + lead c
      · rw [decide_eq_true (show ((i + lead c : Nat) : Int) > (s.length : Int) by omega), decide_eq_true (.inr hl)]
      · rw [decide_eq_false (show ¬ ((i + lead c : Nat) : Int) > (s.length : Int) by omega), decide_eq_false (by omega)]
  rintro r rfl
  simp only [unc_cons, asB_bool, un0_nil]
  by_cases h0 : lead c = 0 ∨ s.length < i + lead c
  · rw [decide_eq_true h0, if_pos h0]
    simp only [ifB_true]
    exact Goes.some rfl
  rw [decide_eq_false h0, if_neg h0]
  simp only [ifB_false]
  have h2 : 2 ≤ lead c := by omega
  have hn : i + lead c ≤ s.length := by omega
  have hlp := size_loop (i := i) (n := lead c) hs hn S0 (lead c - 1) 1 (by omega)
  have hlp : loopO (g74_L1 s (i : Int) (lead c : Int)) ([.int .i64 0, .int .i64 1], S0) = _ := hlp
  simp only [hlp]
  cases hcb : contB s (i + 1) (lead c - 1) with
  | false =>
    simp only [Bool.false_eq_true, if_false, if_true, bindO_ok, unc_cons, asI_int, un0_nil, sel2_one]
    exact Goes.some rfl
  | true =>
    have hl1 : i + 1 < s.length := by omega
    have hw : IntKind.wrap .i64 ((i : Int) + 1) = ((i + 1 : Nat) : Int) := wrapA1 (by omega)
    have hg1 := getD_el hl1
    rw [hg1] at hd
    simp only [if_true, Bool.true_eq_false, if_false, bindO_ok, unc_cons, asI_int, un0_nil, sel2_zero, letV_eq, hw, idxStr_nat hl1, hd]
    refine Goes.bind (R := fun r => r = ([.bool (badD c d)], S0)) ?_ ?_
    · by_cases c1 : c = 224
      · by_cases k : d < 160
        · simp only [ifB_beq, ifB_decide, if_pos (show (c : Int) = 224 by omega), if_pos (show ((d : Nat) : Int) < 160 by omega)]
          exact Goes.some (congrArg (fun b => ([AV.bool b], S0)) (decide_eq_true (by omega)).symm)
        · simp only [ifB_beq, ifB_decide, if_pos (show (c : Int) = 224 by omega), if_neg (show ¬ ((d : Nat) : Int) < 160 by omega), if_neg (show ¬ (c : Int) = 240 by omega), if_neg (show ¬ (c : Int) = 244 by omega), if_neg (show ¬ (c : Int) = 237 by omega)]
          exact Goes.some (congrArg (fun b => ([AV.bool b], S0)) (decide_eq_false (by omega)).symm)
      · by_cases c2 : c = 237
        · by_cases k : 159 < d
          · simp only [ifB_beq, ifB_decide, if_neg (show ¬ (c : Int) = 224 by omega), if_pos (show (c : Int) = 237 by omega), if_pos (show ((d : Nat) : Int) > 159 by omega)]
            exact Goes.some (congrArg (fun b => ([AV.bool b], S0)) (decide_eq_true (by omega)).symm)
          · simp only [ifB_beq, ifB_decide, if_neg (show ¬ (c : Int) = 224 by omega), if_pos (show (c : Int) = 237 by omega), if_neg (show ¬ ((d : Nat) : Int) > 159 by omega), if_neg (show ¬ (c : Int) = 240 by omega), if_neg (show ¬ (c : Int) = 244 by omega)]
            exact Goes.some (congrArg (fun b => ([AV.bool b], S0)) (decide_eq_false (by omega)).symm)
        · by_cases c3 : c = 240
          · by_cases k : d < 144
            · simp only [ifB_beq, ifB_decide, if_neg (show ¬ (c : Int) = 224 by omega), if_neg (show ¬ (c : Int) = 237 by omega), if_pos (show (c : Int) = 240 by omega), if_pos (show ((d : Nat) : Int) < 144 by omega)]
              exact Goes.some (congrArg (fun b => ([AV.bool b], S0)) (decide_eq_true (by omega)).symm)
            · simp only [ifB_beq, ifB_decide, if_neg (show ¬ (c : Int) = 224 by omega), if_neg (show ¬ (c : Int) = 237 by omega), if_pos (show (c : Int) = 240 by omega), if_neg (show ¬ ((d : Nat) : Int) < 144 by omega), if_neg (show ¬ (c : Int) = 244 by omega)]
              exact Goes.some (congrArg (fun b => ([AV.bool b], S0)) (decide_eq_false (by omega)).symm)
          · by_cases c4 : c = 244
            · simp only [ifB_beq, ifB_decide, if_neg (show ¬ (c : Int) = 224 by omega), if_neg (show ¬ (c : Int) = 237 by omega), if_neg (show ¬ (c : Int) = 240 by omega), if_pos (show (c : Int) = 244 by omega)]
              exact Goes.some (congrArg (fun b => ([AV.bool b], S0)) (decide_eq_decide.2 (by omega)))
            · simp only [ifB_beq, ifB_decide, if_neg (show ¬ (c : Int) = 224 by omega), if_neg (show ¬ (c : Int) = 237 by omega), if_neg (show ¬ (c : Int) = 240 by omega), if_neg (show ¬ (c : Int) = 244 by omega)]
              exact Goes.some (congrArg (fun b => ([AV.bool b], S0)) (decide_eq_false (by omega)).symm)
    · rintro r rfl
      simp only [unc_cons, asB_bool, un0_nil]
      cases badD c d with
      | true => simp only [ifB_true, if_true]; exact Goes.some rfl
      | false => simp only [ifB_false, Bool.false_eq_true, if_false]; exact Goes.some rfl
theorem call_size {s : B} {i : Nat} (hi : i < s.length) (hs : s.length ≤ 1000000) {β : Type} (st : St) (K : Kv β) : callS (orc vE) 74 [.str s, .int .i64 (i : Int)] st K = K (.int .i64 (szL (s.drop i) : Int)) st q0 := callS_bare st K rfl rfl rfl (size_ok hi hs)
def spR (p : Nat × Nat) : AV := .agg [.int .i64 (p.1 : Int), .int .i64 (p.2 : Int)]
abbrev TSp : TypeId := 98
theorem lines_ok {s : B} (hs : s.length ≤ 1000000) : ∃ x, (orc vE).bare 73 [.str s] = some x ∧ IsSl 2 x ((linesT s).map spR) := by
  suffices h : Goes ((orc vE).bare 73 [.str s]) (fun x => IsSl 2 x ((linesT s).map spR)) from h
  refine Goes.bare rfl (Goes.step (g73_eq _) ?_)
  simp only [g73, asS_str]
  have ap : ∀ {st : St} {v : AV} {out : List (Nat × Nat)} (a b : Nat), Own st 2 TSp v (out.map spR) → out.length ≤ 1000000 → ∃ v' st', Own st' 2 TSp v' ((out ++ [(a, b)]).map spR) ∧ ∃ x, ∀ {β : Type} (K : Kv β), appS 2 16 TSp v [.agg [.int .i64 (a : Int), .int .i64 (b : Int)]] st K = K v' st' x := by
    intro st v out a b ho hl
    obtain ⟨v', st', h1, _, x, h2⟩ := own_app (b := 16) (spR (a, b)) ho (room_of (by rw [List.length_map]; omega) (by omega) (by omega))
    exact ⟨v', st', by rw [List.map_append]; exact h1, x, h2⟩
  refine Goes.bind (R := fun c => ∃ (v : AV) (a : Nat) (st : St) (out : List (Nat × Nat)), c = (0, [v, .int .i64 (a : Int)], st) ∧ Own st 2 TSp v (out.map spR) ∧ out ++ [(a, s.length)] = linesT s ∧ out.length ≤ s.length)
    (Goes.loop (I := fun n c => ∃ (v : AV) (a i f : Nat) (st : St) (out : List (Nat × Nat)), c = ([v, .int .i64 (a : Int), .int .i64 (i : Int)], st) ∧ Own st 2 TSp v (out.map spR) ∧ out ++ linesF f s a i = linesT s ∧ s.length < f + i ∧ i ≤ s.length ∧ out.length ≤ i ∧ n = s.length - i) ?_ s.length _
      ⟨.nils, 0, 0, s.length + 1, S0, [], rfl, Own.nils (Nat.le_refl _) _ _, rfl, by omega, by omega, by simp, by omega⟩) ?_
  · rintro n c ⟨v, a, i, f, st, out, rfl, ho, he, hf, hi, hol, rfl⟩
    obtain ⟨f, rfl⟩ : ∃ g, f = g + 1 := ⟨f - 1, by omega⟩
    unfold linesF at he
    by_cases hil : i < s.length
    · rw [if_pos hil] at he
      have q : (i : Int) < (s.length : Int) := by omega
      have hg := getD_el hil
      simp only [g73_L1, unc_cons, asI_int, un0_nil, ifB_decide, if_pos q, idxStr_nat hil]
      refine Goes.bind (R := fun r => ∃ (v : AV) (a i2 f : Nat) (st : St) (out : List (Nat × Nat)), r = .inl ([v, .int .i64 (i2 : Int), .int .i64 (a : Int)], st) ∧ Own st 2 TSp v (out.map spR) ∧ out ++ linesF f s a (i2 + 1) = linesT s ∧ s.length < f + (i2 + 1) ∧ i ≤ i2 ∧ i2 + 1 ≤ s.length ∧ out.length ≤ i2 + 1) ?_ ?_
      · refine Goes.bind (R := fun r => r = ([AV.bool (decide (s[i].toNat ≠ 10 ∧ s[i].toNat ≠ 13))], st)) ?_ ?_
        · by_cases h1 : s[i].toNat = 10
          · simp only [ifB_bne, if_pos (show ((s[i].toNat : Nat) : Int) = 10 by omega)]
            exact Goes.some (congrArg (fun b => ([AV.bool b], st)) (decide_eq_false (by omega)).symm)
          · simp only [ifB_bne, if_neg (show ¬ ((s[i].toNat : Nat) : Int) = 10 by omega)]
            refine Goes.some (congrArg (fun b => ([AV.bool b], st)) ?_)
            by_cases h2 : s[i].toNat = 13
            · rw [decide_eq_false (show ¬ (s[i].toNat ≠ 10 ∧ s[i].toNat ≠ 13) by omega), bne_eq_false_iff_eq]; omega
            · rw [decide_eq_true (show s[i].toNat ≠ 10 ∧ s[i].toNat ≠ 13 by omega), bne_iff_ne]; omega
        rintro r rfl
        simp only [unc_cons, asB_bool, un0_nil]
        have n10 : (s.getD i 0 = 10) ↔ s[i].toNat = 10 := by rw [hg]; exact ⟨fun e => by rw [e]; rfl, fun e => UInt8.toNat_inj.1 e⟩
        have n13 : (s.getD i 0 = 13) ↔ s[i].toNat = 13 := by rw [hg]; exact ⟨fun e => by rw [e]; rfl, fun e => UInt8.toNat_inj.1 e⟩
        by_cases hp : s[i].toNat ≠ 10 ∧ s[i].toNat ≠ 13
        · rw [decide_eq_true hp]
          rw [if_neg (fun e => hp.1 (n10.1 e)), if_neg (fun e => hp.2 (n13.1 e))] at he
          simp only [ifB_true]
          exact Goes.some ⟨v, a, i, f, st, out, rfl, ho, he, by omega, Nat.le_refl _, by omega, by omega⟩
        · rw [decide_eq_false hp]
          simp only [ifB_false]
          obtain ⟨v', st', ho', x, e'⟩ := ap a i ho (by omega)
          refine Goes.step (e' _) ?_
          have ho2 : out ++ (a, i) :: (if s[i].toNat = 13 ∧ s.getD (i + 1) 0 = 10 then linesF f s (i + 2) (i + 2) else linesF f s (i + 1) (i + 1)) = linesT s := by
            rw [← he]
            by_cases h1 : s[i].toNat = 10
            · rw [if_pos (n10.2 h1), if_neg (by omega)]
            · rw [if_neg (fun e => h1 (n10.1 e)), if_pos (n13.2 (by omega))]
              by_cases h2 : s.getD (i + 1) 0 = 10
              · rw [if_pos h2, if_pos ⟨by omega, h2⟩]
              · rw [if_neg h2, if_neg (fun h => h2 h.2)]
          refine Goes.bind (R := fun r => r = ([AV.bool (decide (s[i].toNat = 13 ∧ s.getD (i + 1) 0 = 10))], st')) ?_ ?_
          · by_cases h1 : s[i].toNat = 13
            · have hw : IntKind.wrap .i64 ((i : Int) + 1) = ((i + 1 : Nat) : Int) := wrapA1 (by omega)
              simp only [ifB_beq, if_pos (show ((s[i].toNat : Nat) : Int) = 13 by omega), letV_eq, hw, ifB_decide]
              by_cases h2 : i + 1 < s.length
              · have hg1 := getD_el h2
                have m10 : (s.getD (i + 1) 0 = 10) ↔ s[i + 1].toNat = 10 := by rw [hg1]; exact ⟨fun e => by rw [e]; rfl, fun e => UInt8.toNat_inj.1 e⟩
                simp only [if_pos (show ((i + 1 : Nat) : Int) < (s.length : Int) by omega), idxStr_nat h2]
                refine Goes.some (congrArg (fun b => ([AV.bool b], st')) ?_)
                by_cases h3 : s[i + 1].toNat = 10
                · rw [decide_eq_true (show s[i].toNat = 13 ∧ s.getD (i + 1) 0 = 10 from ⟨h1, m10.2 h3⟩), beq_iff_eq]; omega
                · rw [decide_eq_false (show ¬ (s[i].toNat = 13 ∧ s.getD (i + 1) 0 = 10) from fun h => h3 (m10.1 h.2)), beq_eq_false_iff_ne]; omega
              · simp only [if_neg (show ¬ ((i + 1 : Nat) : Int) < (s.length : Int) by omega)]
                exact Goes.some (congrArg (fun b => ([AV.bool b], st')) (decide_eq_false (fun h => h2 (getD_lt h.2))).symm)
            · simp only [ifB_beq, if_neg (show ¬ ((s[i].toNat : Nat) : Int) = 13 by omega)]
              exact Goes.some (congrArg (fun b => ([AV.bool b], st')) (decide_eq_false (fun h => h1 h.1)).symm)
          rintro r rfl
          simp only [unc_cons, asB_bool, un0_nil]
          by_cases hq : s[i].toNat = 13 ∧ s.getD (i + 1) 0 = 10
          · have h2 := getD_lt hq.2
            rw [if_pos hq] at ho2
            rw [decide_eq_true hq]
            have hw : IntKind.wrap .i64 ((i : Int) + 1) = ((i + 1 : Nat) : Int) := wrapA1 (by omega)
            have hw2 : IntKind.wrap .i64 (((i + 1 : Nat) : Int) + 1) = ((i + 2 : Nat) : Int) := wrapA1 (n := i + 1) (by omega)
            simp only [ifB_true, letV_eq, hw, bindO_ok, unc_cons, asI_int, un0_nil, hw2]
            exact Goes.some ⟨v', i + 2, i + 1, f, st', out ++ [(a, i)], rfl, ho', by rw [List.append_assoc]; exact ho2, by omega, by omega, by omega, by rw [List.length_append, List.length_singleton]; omega⟩
          · rw [if_neg hq] at ho2
            rw [decide_eq_false hq]
            have hw : IntKind.wrap .i64 ((i : Int) + 1) = ((i + 1 : Nat) : Int) := wrapA1 (by omega)
            simp only [ifB_false, bindO_ok, unc_cons, asI_int, un0_nil, letV_eq, hw]
            exact Goes.some ⟨v', i + 1, i, f, st', out ++ [(a, i)], rfl, ho', by rw [List.append_assoc]; exact ho2, by omega, by omega, by omega, by rw [List.length_append, List.length_singleton]; omega⟩
      · rintro r ⟨v, a, i2, f, st, out, rfl, ho, he, hf, h1, h2, hol⟩
        have hw : IntKind.wrap .i64 ((i2 : Int) + 1) = ((i2 + 1 : Nat) : Int) := wrapA1 (by omega)
        simp only [onSum_inl, unc_cons, asI_int, un0_nil, letV_eq, hw]
        exact Goes.some ⟨s.length - (i2 + 1), by omega, v, a, i2 + 1, f, st, out, rfl, ho, he, by omega, h2, hol, rfl⟩
    · rw [if_neg hil] at he
      have q : ¬ (i : Int) < (s.length : Int) := by omega
      simp only [g73_L1, unc_cons, asI_int, un0_nil, ifB_decide, if_neg q]
      exact Goes.some ⟨v, a, st, out, rfl, ho, he, by omega⟩
  · rintro c ⟨v, a, st, out, rfl, ho, he, hol⟩
    simp only [unc_cons, asI_int, un0_nil]
    obtain ⟨v', st', ho', x, e'⟩ := ap a s.length ho (by omega)
    rw [he] at ho'
    refine Goes.step (e' _) ?_
    obtain ⟨y, hy, ef⟩ := frz_own ho'
    simp only [oneOf]
    refine Goes.step (ef _) ?_
    exact Goes.some hy
theorem less_ok (l1 c1 l2 c2 : Int) : (orc vE).bare 64 [.agg [.int .i64 l1, .int .i64 c1], .agg [.int .i64 l2, .int .i64 c2]] = some (.bool (decide (l1 < l2 ∨ (l1 = l2 ∧ c1 < c2)))) := by
  refine Goes.eq (Goes.bare rfl (Goes.step (g64_eq _ _) ?_))
  simp only [g64, unA_agg, unc_cons, asI_int, un0_nil]
  refine Goes.bind (R := fun r => r = ([AV.bool (decide (l1 < l2 ∨ (l1 = l2 ∧ c1 < c2)))], S0)) ?_ ?_
  · by_cases h1 : l1 < l2
    · simp only [ifB_decide, if_pos h1]
      exact Goes.some (congrArg (fun b => ([AV.bool b], S0)) (decide_eq_true (.inl h1)).symm)
    · by_cases h2 : l1 = l2
      · simp only [ifB_decide, if_neg h1, ifB_beq, if_pos h2]
        exact Goes.some (congrArg (fun b => ([AV.bool b], S0)) (decide_eq_decide.2 (by omega)))
      · simp only [ifB_decide, if_neg h1, ifB_beq, if_neg h2]
        exact Goes.some (congrArg (fun b => ([AV.bool b], S0)) (decide_eq_false (by omega)).symm)
  · rintro r rfl
    simp only [unc_cons, asB_bool, un0_nil]
    exact Goes.some rfl
theorem put_okR {s t : B} {a b : Nat} (ha : a ≤ s.length) (hb : b ≤ s.length) (hs : s.length ≤ 1000000) (ht : t.length ≤ 1000000) : (orc vE).bare 51 [.str s, .agg [.int .i64 (a : Int), .int .i64 (b : Int)], .str t] = some (.str (s.take a ++ t ++ s.drop b)) := by
  refine Goes.eq (Goes.bare rfl (Goes.step (g51_eq _ _ _) ?_))
  have h1 : Nat.ble ((List.drop 0 (List.take a s)).length + t.length) 9223372036854775807 = true := Nat.ble_eq_true_of_le (by simp only [List.drop_zero, List.length_take]; omega)
  have h2 : Nat.ble ((List.drop 0 (List.take a s) ++ t).length + (List.drop b (List.take s.length s)).length) 9223372036854775807 = true := Nat.ble_eq_true_of_le (by simp only [List.drop_zero, List.length_append, List.length_drop, List.length_take]; omega)
  simp only [g51, asS_str, unA_agg, unc_cons, asI_int, un0_nil, uptoS_nat ha, uptoS_nat hb, letV_eq, h1, h2, chk_true]
  exact Goes.some (by rw [List.drop_zero, List.take_length])
theorem version_ok (n : Int) : (orc vE).bare 35 [.int .i64 n] = some (.bool (decide (0 ≤ n ∧ n ≤ 2147483647))) := by
  refine Goes.eq (Goes.bare rfl (Goes.step (g35_eq _) ?_))
  simp only [g35, asI_int]
  by_cases h : n ≥ 0
  · simp only [ifB_decide, if_pos h, bindO_ok, unc_cons, asB_bool, un0_nil]
    exact Goes.some (congrArg AV.bool (decide_eq_decide.2 (by omega)))
  · simp only [ifB_decide, if_neg h, bindO_ok, unc_cons, asB_bool, un0_nil]
    exact Goes.some (congrArg AV.bool (decide_eq_false (by omega)).symm)
theorem tk2 (x y : AV) : takeO 2 true [x, y] = some (.agg [x, y]) := rfl
def offL : Option Nat → List AV
  | none => [.int .i64 0, .int .i64 60]
  | some k => [.int .i64 (k : Int), .int .i64 0]
def offA : Option Nat → AV
  | none => .tup [.int .i64 0, .int .i64 60]
  | some k => .tup [.int .i64 (k : Int), .int .i64 0]
theorem szL_four (l : B) : szL l ≤ 4 := szN_four _ _ _ _ _
theorem offset_okR {s : B} (hs : s.length ≤ 1000000) (line char : Int) : (orc vE).bare 63 [.str s, .agg [.int .i64 line, .int .i64 char]] = some (offA (offRT s line char)) := by
  obtain ⟨x, hx, hxs⟩ := lines_ok hs
  have cl := fun {γ : Type} (st : St) (K : Kv γ) => callS_bare (f := 73) st K rfl rfl rfl hx
  have hlen : ((linesT s).map spR).length = (linesT s).length := List.length_map _
  refine Goes.eq (Goes.bare rfl (Goes.step (g63_eq _ _) ?_))
  simp only [g63, asS_str, unA_agg, unc_cons, asI_int, un0_nil, cl]
  refine Goes.bind (R := fun r => r = ([AV.bool (decide (line < 0 ∨ ((linesT s).length : Int) ≤ line ∨ char < 0))], S0)) ?_ ?_
  · by_cases h1 : line < 0
    · simp only [ifB_decide, if_pos h1]
      exact Goes.some (congrArg (fun b => ([AV.bool b], S0)) (decide_eq_true (.inl h1)).symm)
    · by_cases h2 : line ≥ ((linesT s).length : Int)
      · simp only [ifB_decide, if_neg h1, hxs.len, hlen, if_pos h2]
        exact Goes.some (congrArg (fun b => ([AV.bool b], S0)) (decide_eq_true (.inr (.inl h2))).symm)
      · simp only [ifB_decide, if_neg h1, hxs.len, hlen, if_neg h2]
        exact Goes.some (congrArg (fun b => ([AV.bool b], S0)) (decide_eq_decide.2 (by omega)))
  rintro r rfl
  simp only [unc_cons, asB_bool, un0_nil]
  unfold offRT
  by_cases hb : line < 0 ∨ ((linesT s).length : Int) ≤ line ∨ char < 0
  · rw [decide_eq_true hb, if_pos hb]
    simp only [ifB_true]
    exact Goes.some rfl
  rw [decide_eq_false hb, if_neg hb]
  simp only [ifB_false]
  obtain ⟨ln, rfl⟩ : ∃ n : Nat, line = (n : Int) := ⟨line.toNat, by omega⟩
  obtain ⟨ch, rfl⟩ : ∃ n : Nat, char = (n : Int) := ⟨char.toNat, by omega⟩
  have hlt : ln < (linesT s).length := by omega
  have hg : (linesT s)[ln]? = some (linesT s)[ln] := List.getElem?_eq_getElem hlt
  simp only [Int.toNat_natCast]
  rw [hg]
  obtain ⟨ha, hbl⟩ := linesT_in (List.mem_of_getElem? hg)
  generalize (linesT s)[ln] = p at hg ha hbl
  obtain ⟨a, b⟩ := p
  simp only at ha hbl
  have hg2 : ((linesT s).map spR)[ln]? = some (spR (a, b)) := by rw [List.getElem?_map, hg]; rfl
  have ix : ∀ {β : Type} (st : St) (K : AV → List Nat → Option β), idxA 2 x (ln : Int) st K = K (.ip [.int .i64 (a : Int), .int .i64 (b : Int)]) [] := fun st K => hxs.idx hg2 st K
  simp only [ix, loadS_ip, List.drop_zero, tk2, bindO_ok, unA_agg, unc_cons, asI_int, un0_nil]
  refine Goes.valloc (Vw.start (Nat.le_refl _)) fun s1 e1 v1 => Goes.vstore [] v1 fun s2 fx e2 v2 => ?_
  have g2 : s2.get 0 = .ok (.cells TSp [.int .i64 (a : Int), .int .i64 (b : Int)]) := v2.get List.mem_cons_self
  simp only [loadS_mp g2, List.drop_zero, takeO_one, bindO_ok, asI_int]
  generalize hR : offR (b - a + 1) s b a 0 ch = R0
  refine Goes.bind (R := fun c => ∃ st, c = (0, offL R0, st))
    (Goes.loop (I := fun n c => ∃ (i u f : Nat) (st : St), c = ([.int .i64 0, .int .i64 0, .int .i64 (u : Int), .int .i64 (i : Int)], st) ∧ st.get 0 = .ok (.cells TSp [.int .i64 (a : Int), .int .i64 (b : Int)]) ∧ offR f s b i u ch = R0 ∧ b - i < f ∧ i ≤ s.length ∧ u ≤ 2 * i ∧ n = s.length - i) ?_ (s.length - a) _
      ⟨a, 0, b - a + 1, s2, rfl, g2, hR, by omega, by omega, by omega, rfl⟩) ?_
  · rintro n c ⟨i, u, f, st, rfl, g, hr, hf, hi, hu, rfl⟩
    obtain ⟨f, rfl⟩ : ∃ g, f = g + 1 := ⟨f - 1, by omega⟩
    unfold offR at hr
    simp only [g63_L1, unc_cons, asI_int, un0_nil]
    by_cases q : u = ch
    · rw [if_pos q] at hr
      simp only [ifB_beq, if_pos (show (u : Int) = (ch : Int) by omega)]
      exact Goes.some ⟨st, by rw [← hr]; rfl⟩
    · rw [if_neg q] at hr
      simp only [ifB_beq, if_neg (show ¬ (u : Int) = (ch : Int) by omega), loadS_mp g, List.drop_succ_cons, List.drop_zero, takeO_one, bindO_ok, asI_int]
      by_cases q2 : b ≤ i
      · rw [if_pos q2] at hr
        simp only [ifB_decide, if_pos (show (i : Int) ≥ (b : Int) by omega)]
        exact Goes.some ⟨st, by rw [← hr]; rfl⟩
      · rw [if_neg q2] at hr
        have hil : i < s.length := by omega
        have h4 := szL_four (s.drop i)
        have hle := szL_le (drop_ne hil)
        rw [List.length_drop] at hle
        have hw : IntKind.wrap .i64 ((u : Int) + 1) = ((u + 1 : Nat) : Int) := wrapA1 (by omega)
        have hw2 : IntKind.wrap .i64 (((u + 1 : Nat) : Int) + 1) = ((u + 2 : Nat) : Int) := wrapA1 (n := u + 1) (by omega)
        have hm : (if 1 > (szL (s.drop i) : Int) then (1 : Int) else (szL (s.drop i) : Int)) = ((max (szL (s.drop i)) 1 : Nat) : Int) := by
          split <;> omega
        have hwi : IntKind.wrap .i64 ((i : Int) + ((max (szL (s.drop i)) 1 : Nat) : Int)) = ((i + max (szL (s.drop i)) 1 : Nat) : Int) := wrapA (by omega)
        simp only [ifB_decide, if_neg (show ¬ (i : Int) ≥ (b : Int) by omega), letV_eq, hw, call_size hil hs, asI_int]
        refine Goes.bind (R := fun r => r = ([AV.int .i64 ((u + (if szL (s.drop i) = 4 then 2 else 1) : Nat) : Int)], st)) ?_ ?_
        · by_cases h : szL (s.drop i) = 4
          · simp only [ifB_beq, if_pos (show (szL (s.drop i) : Int) = 4 by omega), hw2]
            exact Goes.some (by rw [if_pos h])
          · simp only [ifB_beq, if_neg (show ¬ (szL (s.drop i) : Int) = 4 by omega)]
            exact Goes.some (by rw [if_neg h])
        rintro r rfl
        simp only [unc_cons, asI_int, un0_nil, hm, hwi]
        exact Goes.some ⟨s.length - (i + max (szL (s.drop i)) 1), by omega, i + max (szL (s.drop i)) 1, u + (if szL (s.drop i) = 4 then 2 else 1), f, st, rfl, g, hr, by omega, by omega, by split <;> omega, rfl⟩
  · rintro c ⟨st, rfl⟩
    cases R0 with
    | none => simp only [offL, unc_cons, asI_int, un0_nil]; exact Goes.some rfl
    | some k => simp only [offL, unc_cons, asI_int, un0_nil]; exact Goes.some rfl
def spanA : Option (Nat × Nat) → AV
  | none => .tup [.agg [.int .i64 0, .int .i64 0], .int .i64 60]
  | some (a, b) => .tup [.agg [.int .i64 (a : Int), .int .i64 (b : Int)], .int .i64 0]
theorem span_okR {s : B} (hs : s.length ≤ 1000000) (l1 c1 l2 c2 : Int) : (orc vE).bare 50 [.str s, .agg [.int .i64 l1, .int .i64 c1, .int .i64 l2, .int .i64 c2]] = some (spanA (spanR s l1 c1 l2 c2)) := by
  have co := fun (l c : Int) {γ : Type} (st : St) (K : Kv γ) => callS_bare (f := 63) (args := [.str s, .agg [.int .i64 l, .int .i64 c]]) st K rfl rfl rfl (offset_okR hs l c)
  have cless := fun {γ : Type} (st : St) (K : Kv γ) => callS_bare (f := 64) st K rfl rfl rfl (less_ok l2 c2 l1 c1)
  refine Goes.eq (Goes.bare rfl (Goes.step (g50_eq _ _) ?_))
  have v0 : Vw (St.mk 1 0 (Tr.node (some (VM.Obj.cells TSp [AV.int .i64 0, AV.int .i64 0])) Tr.leaf Tr.leaf)) [(0, TSp, [.int .i64 0, .int .i64 0])] := (Vw.start (st := S0) (Nat.le_refl _)).alloc TSp _
  have fin : ∀ {st : St} (_ : Vw st [(0, TSp, [.int .i64 0, .int .i64 0])]) (a b : Int) (e : Int) {K : Kv AV}, (∀ st', st'.get 0 = .ok (.cells TSp [.int .i64 a, .int .i64 b]) → ∀ fx, Goes (K VM.undef st' fx) (· = spanA (spanR s l1 c1 l2 c2))) → Goes (storeS (orc vE) 2 (.mp 0 0) (.agg [.int .i64 a, .int .i64 b]) [.int .i64 a, .int .i64 b] st K) (· = spanA (spanR s l1 c1 l2 c2)) := by
    intro st v a b e K h
    exact Goes.vstore [] v fun s2 fx _ v2 => h s2 (v2.get List.mem_cons_self) fx
  simp only [g50, asS_str, unA_agg, unc_cons, asI_int, un0_nil, co, cless]
  generalize St.mk 1 0 (Tr.node (some (VM.Obj.cells TSp [AV.int .i64 0, AV.int .i64 0])) Tr.leaf Tr.leaf) = st0 at v0
  unfold spanR at fin ⊢
  cases h1 : offRT s l1 c1 with
  | none =>
    rw [h1] at fin
    simp only [offA, unT_tup, nthS_zero, nthS_one, asI_int, ifB_bne, show ¬ ((60 : Int) = 0) by decide, if_false]
    refine fin v0 0 0 60 fun s2 g2 fx => ?_
    simp only [loadS_mp g2, List.drop_zero, tk2, bindO_ok, unA_agg, unc_cons, asI_int, un0_nil]
    exact Goes.some rfl
  | some a =>
    cases h2 : offRT s l2 c2 with
    | none =>
      rw [h1, h2] at fin
      simp only [offA, unT_tup, nthS_zero, nthS_one, asI_int, ifB_bne, show ¬ ((60 : Int) = 0) by decide, if_true, if_false]
      refine fin v0 0 0 60 fun s2 g2 fx => ?_
      simp only [loadS_mp g2, List.drop_zero, tk2, bindO_ok, unA_agg, unc_cons, asI_int, un0_nil]
      exact Goes.some rfl
    | some b =>
      rw [h1, h2] at fin
      simp only [offA, unT_tup, nthS_zero, nthS_one, asI_int, ifB_bne, if_true, asB_bool]
      by_cases q : l2 < l1 ∨ (l2 = l1 ∧ c2 < c1)
      · rw [decide_eq_true q]
        simp only [if_pos q] at fin ⊢
        simp only [ifB_true]
        refine fin v0 0 0 60 fun s2 g2 fx => ?_
        simp only [loadS_mp g2, List.drop_zero, tk2, bindO_ok, unA_agg, unc_cons, asI_int, un0_nil]
        exact Goes.some rfl
      · rw [decide_eq_false q]
        simp only [if_neg q] at fin ⊢
        simp only [ifB_false]
        refine fin v0 a b 0 fun s2 g2 fx => ?_
        simp only [loadS_mp g2, List.drop_zero, tk2, bindO_ok, unA_agg, unc_cons, asI_int, un0_nil]
        exact Goes.some rfl
end Go.Proofs.YtkknkhniadiapaaDoor.Vm
namespace Go.Proofs.YtkknkhniadiapaaDoor.Vm
open Go Go.VM Go.Proofs Go.Lex
def chN (s : List UInt8) : Nat := if szL s = 0 then 1 else szL s
def bitsF (o : Int) : List UInt8 → Int
  | [] => o
  | b :: l => bitsF (o * 64 + b.toNat - 128) l
theorem bits_loop (l : List UInt8) (hl : l.length ≤ 4) (st : St) : ∀ (r : List UInt8) (i : Nat) (o : Int), l.drop i = r → i ≤ l.length → -(1000 * 100 ^ i : Nat) ≤ o → o ≤ (1000 * 100 ^ i : Nat) →
    loopO (g61_L1 l) ([.int .i64 o, .int .i64 (i : Int)], st) = some (0, [.int .i64 (bitsF o r)], st)
  | [], i, o, hd, hi, _, _ => by
    have := List.drop_eq_nil_iff.1 hd
    have q : ¬ (i : Int) < (l.length : Int) := by omega
    refine loopO_inr ?_
    simp only [g61_L1, unc_cons, asI_int, un0_nil, ifB_decide, if_neg q, bitsF]
  | b :: r, i, o, hd, hi, h1, h2 => by
    obtain ⟨hg, hr, hlt⟩ := drop_cons hd
    have q : (i : Int) < (l.length : Int) := by omega
    have hb : l[i] = b := getElem_of hlt hg
    have hb2 := UInt8.toNat_lt b
    have hp : (100 : Nat) ^ i ≤ 100 ^ 4 := Nat.pow_le_pow_right (by omega) (by omega)
    have hp1 : 1 ≤ (100 : Nat) ^ i := Nat.one_le_pow _ _ (by omega)
    have hp2 : (100 : Nat) ^ (i + 1) = 100 * 100 ^ i := by rw [Nat.pow_succ, Nat.mul_comm]
    have hp3 : (100 : Nat) ^ 4 = 100000000 := by decide
    have w1 : IntKind.wrap .i64 (o * 64) = o * 64 := wrap_i64 (by omega) (by omega)
    have w2 : IntKind.wrap .i64 (b.toNat : Int) = (b.toNat : Int) := wrap_i64 (by omega) (by omega)
    have w3 : IntKind.wrap .i64 (o * 64 + (b.toNat : Int)) = o * 64 + (b.toNat : Int) := wrap_i64 (by omega) (by omega)
    have w4 : IntKind.wrap .i64 (o * 64 + (b.toNat : Int) - 128) = o * 64 + (b.toNat : Int) - 128 := wrap_i64 (by omega) (by omega)
    have ih := bits_loop l hl st r (i + 1) (o * 64 + (b.toNat : Int) - 128) hr (by omega) (by omega) (by omega)
    rw [loopO_inl (s' := ([.int .i64 (o * 64 + (b.toNat : Int) - 128), .int .i64 ((i + 1 : Nat) : Int)], st)), ih]
    · rfl
    · simp only [g61_L1, unc_cons, asI_int, un0_nil, ifB_decide, if_pos q, letV_eq, w1, idxStr_nat hlt, hb, w2, w3, w4, wrapA1 (show i + 1 ≤ 9223372036854775807 by omega)]
def headOf : Nat → Int
  | 2 => 192
  | 3 => 224
  | 4 => 240
  | _ => 0
def bitsI : List UInt8 → Int
  | [] => 0
  | [b] => b.toNat
  | b :: l => bitsF ((b.toNat : Int) - headOf (l.length + 1)) l
theorem heads_idx {β : Type} {n : Nat} (h : 2 ≤ n) (h4 : n ≤ 4) (st : St) (K : AV → List Nat → Option β) : idxA 1 (AV.sl 1 [AV.int .i64 0, AV.int .i64 0, AV.int .i64 192, AV.int .i64 224, AV.int .i64 240] Perm.shut) (n : Int) st K = K (.ip [.int .i64 (headOf n)]) [] := by
  match n, h, h4 with
  | 2, _, _ => rfl
  | 3, _, _ => rfl
  | 4, _, _ => rfl
theorem bits_ok {l : List UInt8} (h : l ≠ []) (h4 : l.length ≤ 4) : (orc vE).bare 61 [.str l] = some (.int .i64 (bitsI l)) := by
  refine bare_of rfl ((g61_eq _).trans ?_)
  cases l with
  | nil => exact absurd rfl h
  | cons b r =>
    have hb2 := UInt8.toNat_lt b
    have i0 : ∀ {β : Type} (K : UInt8 → Option β), idxStr (b :: r) 0 K = K b := fun K => idxStr_nat (k := 0) (by simp) K
    have w2 : IntKind.wrap .i64 (b.toNat : Int) = (b.toNat : Int) := wrap_i64 (by omega) (by omega)
    cases r with
    | nil =>
      have q : (([b] : List UInt8).length : Int) = 1 := rfl
      simp only [g61, asS_str, ifB_beq, if_pos q, i0, letV_eq, w2, bitsI]
    | cons c r =>
      have q : ¬ (((b :: c :: r).length : Nat) : Int) = 1 := by simp; omega
      have hh : headOf ((b :: c :: r).length) ≤ 240 ∧ 0 ≤ headOf ((b :: c :: r).length) := by
        unfold headOf; split <;> omega
      have w3 : IntKind.wrap .i64 ((b.toNat : Int) - headOf ((b :: c :: r).length)) = (b.toNat : Int) - headOf ((b :: c :: r).length) := wrap_i64 (by omega) (by omega)
      have hl := bits_loop (b :: c :: r) h4 (St.mk 0 0 Tr.leaf) (c :: r) 1 ((b.toNat : Int) - headOf ((b :: c :: r).length)) rfl (by simp) (by omega) (by omega)
      have hl : loopO (g61_L1 (b :: c :: r)) ([.int .i64 ((b.toNat : Int) - headOf ((b :: c :: r).length)), .int .i64 1], St.mk 0 0 Tr.leaf) = _ := hl
      simp only [g61, asS_str, ifB_beq, if_neg q, i0, letV_eq, w2, heads_idx (show 2 ≤ (b :: c :: r).length by simp) h4, loadS_ip, takeO_one, bindO_ok, asI_int, w3]
      rw [hl]
      simp only [bindO_ok, unc_cons, asI_int, un0_nil, bitsI, List.length_cons]
def putN (k : Nat) : List UInt8 :=
  if 1114111 < k ∨ (55296 ≤ k ∧ k ≤ 57343) then []
  else if k < 128 then [UInt8.ofNat k]
  else if k < 2048 then [UInt8.ofNat (192 + k / 64), UInt8.ofNat (128 + k % 64)]
  else if k < 65536 then [UInt8.ofNat (224 + k / 4096), UInt8.ofNat (128 + k / 64 % 64), UInt8.ofNat (128 + k % 64)]
  else [UInt8.ofNat (240 + k / 262144), UInt8.ofNat (128 + k / 4096 % 64), UInt8.ofNat (128 + k / 64 % 64), UInt8.ofNat (128 + k % 64)]
theorem wrap8 {n : Nat} (h : n ≤ 255) : IntKind.wrap .u8 (n : Int) = (n : Int) := by
  show (if (false && decide ((n : Int) % (2 ^ 8 : Int) ≥ (2 ^ 7 : Int))) = true then (n : Int) % (2 ^ 8 : Int) - (2 ^ 8 : Int) else (n : Int) % (2 ^ 8 : Int)) = _
  simp only [Bool.false_and, Bool.false_eq_true, if_false]
  omega
theorem put_ok' (k : Nat) (hk : k ≤ 9223372036854775807) : (orc vE).bare 62 [.int .i64 (k : Int)] = some (.str (putN k)) := by
  refine bare_of rfl ((g62_eq _).trans ?_)
  have q0 : ¬ ((k : Int) < 0) := by omega
  simp only [g62, asI_int, ifB_decide, if_neg q0]
  unfold putN
  by_cases c1 : (k : Int) > 1114111
  · simp only [if_pos c1, bindO_ok, unc_cons, asB_bool, un0_nil, ifB_true, if_pos (show 1114111 < k ∨ (55296 ≤ k ∧ k ≤ 57343) by omega)]
  rw [if_neg c1]
  by_cases c2 : (k : Int) ≥ 55296 ∧ (k : Int) ≤ 57343
  · simp only [if_pos c2.1, decide_eq_true c2.2, bindO_ok, unc_cons, asB_bool, un0_nil, ifB_true, if_pos (show 1114111 < k ∨ (55296 ≤ k ∧ k ≤ 57343) by omega)]
  have e0 : ∀ {β : Type} (K : Car → Option β), bindO (if (k : Int) ≥ 55296 then some (([AV.bool (decide ((k : Int) ≤ 57343))], St.mk 0 0 Tr.leaf) : Car) else some ([AV.bool false], St.mk 0 0 Tr.leaf)) K = K ([AV.bool false], St.mk 0 0 Tr.leaf) := by
    intro β K
    by_cases h : (k : Int) ≥ 55296
    · have : ¬ (k : Int) ≤ 57343 := fun h2 => c2 ⟨h, h2⟩
      rw [if_pos h, decide_eq_false this]; rfl
    · rw [if_neg h]; rfl
  rw [e0]
  rw [if_neg (show ¬ (1114111 < k ∨ (55296 ≤ k ∧ k ≤ 57343)) by omega)]
  simp only [unc_cons, asB_bool, un0_nil, ifB_false, ifB_decide]
  by_cases c3 : k < 128
  · rw [if_pos (show (k : Int) < 128 by omega), if_pos c3]
    simp only [letV_eq, wrap8 (show k ≤ 255 by omega), Int.toNat_natCast]
  rw [if_neg (show ¬ (k : Int) < 128 by omega), if_neg c3]
  have t64 : Int.tdiv (k : Int) 64 = ((k / 64 : Nat) : Int) := rfl
  have t4096 : Int.tdiv (k : Int) 4096 = ((k / 4096 : Nat) : Int) := rfl
  have t262144 : Int.tdiv (k : Int) 262144 = ((k / 262144 : Nat) : Int) := rfl
  have m64 : ∀ n : Nat, Int.tmod (n : Int) 64 = ((n % 64 : Nat) : Int) := fun n => rfl
  have wc : ∀ c n : Nat, c + n ≤ 9223372036854775807 → IntKind.wrap .i64 ((c : Int) + (n : Int)) = ((c + n : Nat) : Int) := fun c n h => wrapA h
  have a1 : ∀ n : Nat, n ≤ 1000 → IntKind.wrap .i64 (128 + (n : Int)) = ((128 + n : Nat) : Int) := fun n h => wc 128 n (by omega)
  have a2 : ∀ n : Nat, n ≤ 1000 → IntKind.wrap .i64 (192 + (n : Int)) = ((192 + n : Nat) : Int) := fun n h => wc 192 n (by omega)
  have a3 : ∀ n : Nat, n ≤ 1000 → IntKind.wrap .i64 (224 + (n : Int)) = ((224 + n : Nat) : Int) := fun n h => wc 224 n (by omega)
  have a4 : ∀ n : Nat, n ≤ 1000 → IntKind.wrap .i64 (240 + (n : Int)) = ((240 + n : Nat) : Int) := fun n h => wc 240 n (by omega)
  by_cases c4 : k < 2048
  · rw [if_pos (show (k : Int) < 2048 by omega), if_pos c4]
    simp only [letV_eq, t64, m64, wrapN (show k / 64 ≤ 9223372036854775807 by omega), a1 (k % 64) (by omega), a2 (k / 64) (by omega), wrap8 (show 192 + k / 64 ≤ 255 by omega), wrap8 (show 128 + k % 64 ≤ 255 by omega), Int.toNat_natCast]
  rw [if_neg (show ¬ (k : Int) < 2048 by omega), if_neg c4]
  by_cases c5 : k < 65536
  · rw [if_pos (show (k : Int) < 65536 by omega), if_pos c5]
    simp only [letV_eq, t64, t4096, m64, wrapN (show k / 64 ≤ 9223372036854775807 by omega), wrapN (show k / 4096 ≤ 9223372036854775807 by omega), a1 (k % 64) (by omega), a1 (k / 64 % 64) (by omega), a3 (k / 4096) (by omega), wrap8 (show 224 + k / 4096 ≤ 255 by omega), wrap8 (show 128 + k / 64 % 64 ≤ 255 by omega), wrap8 (show 128 + k % 64 ≤ 255 by omega), Int.toNat_natCast]
  rw [if_neg (show ¬ (k : Int) < 65536 by omega), if_neg c5]
  simp only [letV_eq, t64, t4096, t262144, m64, wrapN (show k / 64 ≤ 9223372036854775807 by omega), wrapN (show k / 4096 ≤ 9223372036854775807 by omega), wrapN (show k / 262144 ≤ 9223372036854775807 by omega), a1 (k % 64) (by omega), a1 (k / 64 % 64) (by omega), a1 (k / 4096 % 64) (by omega), a4 (k / 262144) (by omega), wrap8 (show 240 + k / 262144 ≤ 255 by omega), wrap8 (show 128 + k / 4096 % 64 ≤ 255 by omega), wrap8 (show 128 + k / 64 % 64 ≤ 255 by omega), wrap8 (show 128 + k % 64 ≤ 255 by omega), Int.toNat_natCast]
theorem of_eq {n : Nat} {a : UInt8} (h : n ≤ 255) : UInt8.ofNat n = a ↔ n = a.toNat := by
  constructor
  · intro e; rw [← e, UInt8.toNat_ofNat']; omega
  · intro e; apply UInt8.toNat_inj.1; rw [UInt8.toNat_ofNat']; have := UInt8.toNat_lt a; omega
theorem put1 (a : UInt8) : putN a.toNat = [a] ↔ a.toNat < 128 := by
  have ha := UInt8.toNat_lt a
  unfold putN
  rw [if_neg (by omega)]
  by_cases h : a.toNat < 128
  · rw [if_pos h]; simp [h]
  · rw [if_neg h, if_pos (by omega)]; simp [h]
theorem put2 {k : Nat} {a b : UInt8} (hk : (k : Int) = ((a.toNat : Int) - 192) * 64 + b.toNat - 128) : putN k = [a, b] ↔ (194 ≤ a.toNat ∧ a.toNat ≤ 223) ∧ ¬ (b.toNat < 128 ∨ 191 < b.toNat) := by
  have ha := UInt8.toNat_lt a
  have hb := UInt8.toNat_lt b
  unfold putN
  by_cases c1 : 1114111 < k ∨ (55296 ≤ k ∧ k ≤ 57343)
  · rw [if_pos c1]; simp; omega
  rw [if_neg c1]
  by_cases c2 : k < 128
  · rw [if_pos c2]; simp; omega
  rw [if_neg c2]
  by_cases c3 : k < 2048
  · rw [if_pos c3]
    simp only [List.cons.injEq, and_true, of_eq (show 192 + k / 64 ≤ 255 by omega), of_eq (show 128 + k % 64 ≤ 255 by omega)]
    omega
  rw [if_neg c3]
  by_cases c4 : k < 65536
  · rw [if_pos c4]; simp; omega
  · rw [if_neg c4]; simp; omega
theorem put3 {k : Nat} {a b c : UInt8} (hk : (k : Int) = (((a.toNat : Int) - 224) * 64 + b.toNat - 128) * 64 + c.toNat - 128) :
    putN k = [a, b, c] ↔ (224 ≤ a.toNat ∧ a.toNat ≤ 239) ∧ ¬ (b.toNat < 128 ∨ 191 < b.toNat ∨ c.toNat < 128 ∨ 191 < c.toNat ∨ (a.toNat = 224 ∧ b.toNat < 160) ∨ (a.toNat = 237 ∧ 159 < b.toNat)) := by
  have ha := UInt8.toNat_lt a
  have hb := UInt8.toNat_lt b
  have hc := UInt8.toNat_lt c
  unfold putN
  by_cases c1 : 1114111 < k ∨ (55296 ≤ k ∧ k ≤ 57343)
  · rw [if_pos c1]; simp; omega
  rw [if_neg c1]
  by_cases c2 : k < 128
  · rw [if_pos c2]; simp; omega
  rw [if_neg c2]
  by_cases c3 : k < 2048
  · rw [if_pos c3]; simp; omega
  rw [if_neg c3]
  by_cases c4 : k < 65536
  · rw [if_pos c4]
    simp only [List.cons.injEq, and_true, of_eq (show 224 + k / 4096 ≤ 255 by omega), of_eq (show 128 + k / 64 % 64 ≤ 255 by omega), of_eq (show 128 + k % 64 ≤ 255 by omega)]
    omega
  · rw [if_neg c4]; simp; omega
theorem put4 {k : Nat} {a b c d : UInt8} (hk : (k : Int) = ((((a.toNat : Int) - 240) * 64 + b.toNat - 128) * 64 + c.toNat - 128) * 64 + d.toNat - 128) :
    putN k = [a, b, c, d] ↔ (240 ≤ a.toNat ∧ a.toNat ≤ 244) ∧ ¬ (b.toNat < 128 ∨ 191 < b.toNat ∨ c.toNat < 128 ∨ 191 < c.toNat ∨ d.toNat < 128 ∨ 191 < d.toNat ∨ (a.toNat = 240 ∧ b.toNat < 144) ∨ (a.toNat = 244 ∧ 143 < b.toNat)) := by
  have ha := UInt8.toNat_lt a
  have hb := UInt8.toNat_lt b
  have hc := UInt8.toNat_lt c
  have hd := UInt8.toNat_lt d
  unfold putN
  by_cases c1 : 1114111 < k ∨ (55296 ≤ k ∧ k ≤ 57343)
  · rw [if_pos c1]; simp; omega
  rw [if_neg c1]
  by_cases c2 : k < 128
  · rw [if_pos c2]; simp; omega
  rw [if_neg c2]
  by_cases c3 : k < 2048
  · rw [if_pos c3]; simp; omega
  rw [if_neg c3]
  by_cases c4 : k < 65536
  · rw [if_pos c4]; simp; omega
  · rw [if_neg c4]
    simp only [List.cons.injEq, and_true, of_eq (show 240 + k / 262144 ≤ 255 by omega), of_eq (show 128 + k / 4096 % 64 ≤ 255 by omega), of_eq (show 128 + k / 64 % 64 ≤ 255 by omega), of_eq (show 128 + k % 64 ≤ 255 by omega)]
    omega
def goodT (t : List UInt8) : Prop := 0 ≤ bitsI t ∧ putN (bitsI t).toNat = t
theorem good1 (a : UInt8) : goodT [a] ↔ a.toNat < 128 := by
  have e : bitsI [a] = (a.toNat : Int) := rfl
  unfold goodT
  rw [e, Int.toNat_natCast, put1]
  exact ⟨fun h => h.2, fun h => ⟨by omega, h⟩⟩
theorem good2 (a b : UInt8) : goodT [a, b] ↔ (194 ≤ a.toNat ∧ a.toNat ≤ 223) ∧ ¬ (b.toNat < 128 ∨ 191 < b.toNat) := by
  have e : bitsI [a, b] = ((a.toNat : Int) - 192) * 64 + b.toNat - 128 := rfl
  unfold goodT
  rw [e]
  constructor
  · rintro ⟨h0, h⟩
    exact (put2 (by omega)).1 h
  · intro h
    have h0 : 0 ≤ ((a.toNat : Int) - 192) * 64 + b.toNat - 128 := by omega
    exact ⟨h0, (put2 (by omega)).2 h⟩
theorem good3 (a b c : UInt8) : goodT [a, b, c] ↔ (224 ≤ a.toNat ∧ a.toNat ≤ 239) ∧ ¬ (b.toNat < 128 ∨ 191 < b.toNat ∨ c.toNat < 128 ∨ 191 < c.toNat ∨ (a.toNat = 224 ∧ b.toNat < 160) ∨ (a.toNat = 237 ∧ 159 < b.toNat)) := by
  have e : bitsI [a, b, c] = (((a.toNat : Int) - 224) * 64 + b.toNat - 128) * 64 + c.toNat - 128 := rfl
  unfold goodT
  rw [e]
  constructor
  · rintro ⟨h0, h⟩
    exact (put3 (by omega)).1 h
  · intro h
    have h0 : 0 ≤ (((a.toNat : Int) - 224) * 64 + b.toNat - 128) * 64 + c.toNat - 128 := by omega
    exact ⟨h0, (put3 (by omega)).2 h⟩
theorem good4 (a b c d : UInt8) : goodT [a, b, c, d] ↔ (240 ≤ a.toNat ∧ a.toNat ≤ 244) ∧ ¬ (b.toNat < 128 ∨ 191 < b.toNat ∨ c.toNat < 128 ∨ 191 < c.toNat ∨ d.toNat < 128 ∨ 191 < d.toNat ∨ (a.toNat = 240 ∧ b.toNat < 144) ∨ (a.toNat = 244 ∧ 143 < b.toNat)) := by
  have e : bitsI [a, b, c, d] = ((((a.toNat : Int) - 240) * 64 + b.toNat - 128) * 64 + c.toNat - 128) * 64 + d.toNat - 128 := rfl
  unfold goodT
  rw [e]
  constructor
  · rintro ⟨h0, h⟩
    exact (put4 (by omega)).1 h
  · intro h
    have h0 : 0 ≤ ((((a.toNat : Int) - 240) * 64 + b.toNat - 128) * 64 + c.toNat - 128) * 64 + d.toNat - 128 := by omega
    exact ⟨h0, (put4 (by omega)).2 h⟩
theorem bits_bound : ∀ (l : List UInt8), l.length ≤ 4 → bitsI l ≤ 100000000
  | [], _ => by simp [bitsI]
  | [a], _ => by have := UInt8.toNat_lt a; simp only [bitsI]; omega
  | [a, b], _ => by
    have := UInt8.toNat_lt a; have := UInt8.toNat_lt b
    have e : bitsI [a, b] = ((a.toNat : Int) - 192) * 64 + b.toNat - 128 := rfl
    omega
  | [a, b, c], _ => by
    have := UInt8.toNat_lt a; have := UInt8.toNat_lt b; have := UInt8.toNat_lt c
    have e : bitsI [a, b, c] = (((a.toNat : Int) - 224) * 64 + b.toNat - 128) * 64 + c.toNat - 128 := rfl
    omega
  | [a, b, c, d], _ => by
    have := UInt8.toNat_lt a; have := UInt8.toNat_lt b; have := UInt8.toNat_lt c; have := UInt8.toNat_lt d
    have e : bitsI [a, b, c, d] = ((((a.toNat : Int) - 240) * 64 + b.toNat - 128) * 64 + c.toNat - 128) * 64 + d.toNat - 128 := rfl
    omega
  | _ :: _ :: _ :: _ :: _ :: _, h => by simp at h
section
variable {s : List UInt8} (st : St) {n : Nat} (h1 : 1 ≤ n) (h4 : n ≤ 4) (hl : n ≤ s.length)
include h1 h4 hl
theorem rune_calls : (s.take n ≠ [] ∧ (s.take n).length ≤ 4) ∧ (∀ {β : Type} (st : St) (K : Kv β), callS (orc vE) 61 [.str (s.take n)] st K = K (.int .i64 (bitsI (s.take n))) st q0) := by
  have hlen : (s.take n).length = n := by rw [List.length_take]; omega
  have hne : s.take n ≠ [] := by
    intro e
    rw [e] at hlen
    simp at hlen; omega
  exact ⟨⟨hne, by omega⟩, fun st K => callS_bare st K rfl rfl rfl (bits_ok hne (by omega))⟩
theorem rune_yes (hg : goodT (s.take n)) : loopO (g49_L1 s) ([.int .i64 0, .int .i64 0, .int .i64 (n : Int)], st) = some (1, [.int .i64 (bitsI (s.take n)), .int .i64 (n : Int)], st) := by
  obtain ⟨⟨hne, h4'⟩, hb⟩ := rune_calls h1 h4 hl
  have hbd := bits_bound (s.take n) h4'
  obtain ⟨g0, g1⟩ := hg
  obtain ⟨k, hk⟩ := Int.eq_ofNat_of_zero_le g0
  have hp : ∀ {β : Type} (st : St) (K : Kv β), callS (orc vE) 62 [.int .i64 (bitsI (s.take n))] st K = K (.str (s.take n)) st q0 := fun st K => by
    rw [hk, callS_bare st K rfl rfl rfl (put_ok' k (by omega))]
    rw [hk] at g1
    rw [show (s.take n) = putN k from g1.symm]
  refine loopO_inr ?_
  have q1 : (n : Int) ≤ 4 := by omega
  have q2 : (n : Int) ≤ (s.length : Int) := by omega
  simp only [g49_L1, unc_cons, asI_int, un0_nil, ifB_decide, if_pos q1, decide_eq_true q2, bindO_ok, asB_bool, ifB_true, uptoS_nat hl, List.drop_zero, letV_eq, hb, if_pos (show bitsI (s.take n) ≥ 0 from g0), hp, asS_str, apart_kept, apart_kept2, Bool.and_self, chk_true, beq_self_eq_true]
theorem rune_no (hg : ¬ goodT (s.take n)) : loopO (g49_L1 s) ([.int .i64 0, .int .i64 0, .int .i64 (n : Int)], st) = loopO (g49_L1 s) ([.int .i64 0, .int .i64 0, .int .i64 ((n + 1 : Nat) : Int)], st) := by
  obtain ⟨⟨hne, h4'⟩, hb⟩ := rune_calls h1 h4 hl
  have hbd := bits_bound (s.take n) h4'
  have q1 : (n : Int) ≤ 4 := by omega
  have q2 : (n : Int) ≤ (s.length : Int) := by omega
  refine loopO_inl ?_
  by_cases g0 : bitsI (s.take n) ≥ 0
  · obtain ⟨k, hk⟩ := Int.eq_ofNat_of_zero_le g0
    have hne2 : (putN k == s.take n) = false := by
      rw [beq_eq_false_iff_ne]
      intro e
      exact hg ⟨g0, by rw [hk]; exact e⟩
    have hp : ∀ {β : Type} (st : St) (K : Kv β), callS (orc vE) 62 [.int .i64 (bitsI (s.take n))] st K = K (.str (putN k)) st q0 := fun st K => by
      rw [hk, callS_bare st K rfl rfl rfl (put_ok' k (by omega))]
    simp only [g49_L1, unc_cons, asI_int, un0_nil, ifB_decide, if_pos q1, decide_eq_true q2, bindO_ok, asB_bool, ifB_true, uptoS_nat hl, List.drop_zero, letV_eq, hb, if_pos g0, hp, asS_str, apart_kept, apart_kept2, Bool.and_self, chk_true, hne2, ifB_false, wrapA1 (show n + 1 ≤ 9223372036854775807 by omega)]
  · simp only [g49_L1, unc_cons, asI_int, un0_nil, ifB_decide, if_pos q1, decide_eq_true q2, bindO_ok, asB_bool, ifB_true, uptoS_nat hl, List.drop_zero, letV_eq, hb, if_neg g0, ifB_false, wrapA1 (show n + 1 ≤ 9223372036854775807 by omega)]
end
theorem rune_end {s : List UInt8} (st : St) {n : Nat} (h : 4 < n ∨ s.length < n) : loopO (g49_L1 s) ([.int .i64 0, .int .i64 0, .int .i64 (n : Int)], st) = some (0, [.int .i64 0, .int .i64 0], st) := by
  refine loopO_inr ?_
  by_cases q1 : (n : Int) ≤ 4
  · have q2 : ¬ (n : Int) ≤ (s.length : Int) := by omega
    simp only [g49_L1, unc_cons, asI_int, un0_nil, ifB_decide, if_pos q1, decide_eq_false q2, bindO_ok, asB_bool, ifB_false]
  · simp only [g49_L1, unc_cons, asI_int, un0_nil, ifB_decide, if_neg q1, bindO_ok, asB_bool, ifB_false]
theorem good_pos {t : List UInt8} (h : goodT t) : 0 ≤ bitsI t := h.1
theorem rune_loop {s : List UInt8} (hne : s ≠ []) (st : St) : (szL s = 0 ∧ loopO (g49_L1 s) ([.int .i64 0, .int .i64 0, .int .i64 ((1 : Nat) : Int)], st) = some (0, [.int .i64 0, .int .i64 0], st)) ∨
    (szL s ≠ 0 ∧ ∃ p : Int, 0 ≤ p ∧ loopO (g49_L1 s) ([.int .i64 0, .int .i64 0, .int .i64 ((1 : Nat) : Int)], st) = some (1, [.int .i64 p, .int .i64 (szL s : Int)], st)) := by
  cases s with
  | nil => exact absurd rfl hne
  | cons a s1 =>
  have l1 : 1 ≤ (a :: s1).length := by simp
  by_cases g1 : a.toNat < 128
  · have gg : goodT ((a :: s1).take 1) := (good1 a).2 g1
    have hz : szL (a :: s1) = 1 := by
      show szN _ a.toNat _ _ _ = 1
      unfold szN; rw [if_pos g1]
    exact .inr ⟨by omega, _, good_pos gg, by rw [hz]; exact rune_yes st (Nat.le_refl _) (by omega) l1 gg⟩
  have n1 := rune_no st (n := 1) (Nat.le_refl _) (by omega) l1 (fun h => g1 ((good1 a).1 h))
  rw [n1]
  have hsz : szL (a :: s1) = szN (a :: s1).length a.toNat (s1.getD 0 0).toNat (s1.getD 1 0).toNat (s1.getD 2 0).toNat := rfl
  unfold szN at hsz
  rw [if_neg g1] at hsz
  cases s1 with
  | nil =>
    refine .inl ⟨?_, rune_end st (.inr (by simp))⟩
    rw [hsz]
    repeat' split
    all_goals first | rfl | (exfalso; simp at *; done)
  | cons b s2 =>
  have l2 : 2 ≤ (a :: b :: s2).length := by simp
  by_cases g2 : (194 ≤ a.toNat ∧ a.toNat ≤ 223) ∧ ¬ (b.toNat < 128 ∨ 191 < b.toNat)
  · have gg : goodT ((a :: b :: s2).take 2) := (good2 a b).2 g2
    have hz : szL (a :: b :: s2) = 2 := by
      rw [hsz, if_pos g2.1, if_neg]
      intro h
      rcases h with h | h
      · omega
      · exact g2.2 h
    exact .inr ⟨by omega, _, good_pos gg, by rw [hz]; exact rune_yes st (by omega) (by omega) l2 gg⟩
  have n2 := rune_no st (n := 2) (by omega) (by omega) l2 (fun h => g2 ((good2 a b).1 h))
  rw [n2]
  have hb2 : (194 ≤ a.toNat ∧ a.toNat ≤ 223) → szL (a :: b :: s2) = 0 := by
    intro h
    rw [hsz, if_pos h, if_pos]
    have := fun k => g2 ⟨h, k⟩
    refine .inr ?_
    show b.toNat < 128 ∨ 191 < b.toNat
    omega
  cases s2 with
  | nil =>
    refine .inl ⟨?_, rune_end st (.inr (by simp))⟩
    by_cases h : 194 ≤ a.toNat ∧ a.toNat ≤ 223
    · exact hb2 h
    · rw [hsz, if_neg h]
      repeat' split
      all_goals first | rfl | (exfalso; simp at *; done)
  | cons c s3 =>
  have l3 : 3 ≤ (a :: b :: c :: s3).length := by simp
  by_cases g3 : (224 ≤ a.toNat ∧ a.toNat ≤ 239) ∧ ¬ (b.toNat < 128 ∨ 191 < b.toNat ∨ c.toNat < 128 ∨ 191 < c.toNat ∨ (a.toNat = 224 ∧ b.toNat < 160) ∨ (a.toNat = 237 ∧ 159 < b.toNat))
  · have gg : goodT ((a :: b :: c :: s3).take 3) := (good3 a b c).2 g3
    have hz : szL (a :: b :: c :: s3) = 3 := by
      rw [hsz, if_neg (by omega), if_pos g3.1, if_neg]
      intro h
      rcases h with h | h
      · omega
      · exact g3.2 h
    exact .inr ⟨by omega, _, good_pos gg, by rw [hz]; exact rune_yes st (by omega) (by omega) l3 gg⟩
  have n3 := rune_no st (n := 3) (by omega) (by omega) l3 (fun h => g3 ((good3 a b c).1 h))
  rw [n3]
  have hb3 : (224 ≤ a.toNat ∧ a.toNat ≤ 239) → szL (a :: b :: c :: s3) = 0 := by
    intro h
    rw [hsz, if_neg (by omega), if_pos h, if_pos]
    refine .inr ?_
    show b.toNat < 128 ∨ 191 < b.toNat ∨ c.toNat < 128 ∨ 191 < c.toNat ∨ (a.toNat = 224 ∧ b.toNat < 160) ∨ (a.toNat = 237 ∧ 159 < b.toNat)
    exact Classical.byContradiction fun k => g3 ⟨h, k⟩
  cases s3 with
  | nil =>
    refine .inl ⟨?_, rune_end st (.inr (by simp))⟩
    by_cases h : 194 ≤ a.toNat ∧ a.toNat ≤ 223
    · exact hb2 h
    · by_cases h3 : 224 ≤ a.toNat ∧ a.toNat ≤ 239
      · exact hb3 h3
      · rw [hsz, if_neg h, if_neg h3]
        repeat' split
        all_goals first | rfl | (exfalso; simp at *; done)
  | cons d s4 =>
  have l4 : 4 ≤ (a :: b :: c :: d :: s4).length := by simp
  by_cases g4 : (240 ≤ a.toNat ∧ a.toNat ≤ 244) ∧ ¬ (b.toNat < 128 ∨ 191 < b.toNat ∨ c.toNat < 128 ∨ 191 < c.toNat ∨ d.toNat < 128 ∨ 191 < d.toNat ∨ (a.toNat = 240 ∧ b.toNat < 144) ∨ (a.toNat = 244 ∧ 143 < b.toNat))
  · have gg : goodT ((a :: b :: c :: d :: s4).take 4) := (good4 a b c d).2 g4
    have hz : szL (a :: b :: c :: d :: s4) = 4 := by
      rw [hsz, if_neg (by omega), if_neg (by omega), if_pos g4.1, if_neg]
      intro h
      rcases h with h | h
      · omega
      · exact g4.2 h
    exact .inr ⟨by omega, _, good_pos gg, by rw [hz]; exact rune_yes st (by omega) (by omega) l4 gg⟩
  have n4 := rune_no st (n := 4) (by omega) (by omega) l4 (fun h => g4 ((good4 a b c d).1 h))
  rw [n4]
  refine .inl ⟨?_, rune_end st (.inl (by omega))⟩
  by_cases h : 194 ≤ a.toNat ∧ a.toNat ≤ 223
  · exact hb2 h
  · by_cases h3 : 224 ≤ a.toNat ∧ a.toNat ≤ 239
    · exact hb3 h3
    · rw [hsz, if_neg h, if_neg h3]
      by_cases h4 : 240 ≤ a.toNat ∧ a.toNat ≤ 244
      · rw [if_pos h4, if_pos]
        refine .inr ?_
        show b.toNat < 128 ∨ 191 < b.toNat ∨ c.toNat < 128 ∨ 191 < c.toNat ∨ d.toNat < 128 ∨ 191 < d.toNat ∨ (a.toNat = 240 ∧ b.toNat < 144) ∨ (a.toNat = 244 ∧ 143 < b.toNat)
        exact Classical.byContradiction fun k => g4 ⟨h4, k⟩
      · rw [if_neg h4]
theorem ref_rune {s : List UInt8} (hne : s ≠ []) : ∃ p : Int, (orc vE).bare 49 [.str s] = some (.tup [.int .i64 p, .int .i64 (chN s : Int)]) ∧ ((p < 0 ∧ szL s = 0) ∨ (0 ≤ p ∧ szL s ≠ 0)) := by
  have he : (s == []) = false := by simpa using hne
  rcases rune_loop hne (St.mk 0 0 Tr.leaf) with ⟨h, e⟩ | ⟨h, p, hp, e⟩
  · refine ⟨-1, bare_of rfl ((g49_eq _).trans ?_), .inl ⟨by omega, h⟩⟩
    have e : loopO (g49_L1 s) ([.int .i64 0, .int .i64 0, .int .i64 1], St.mk 0 0 Tr.leaf) = _ := e
    simp only [g49, asS_str, he, ifB_false, e, bindO_ok, unc_cons, asI_int, un0_nil, sel2_zero, chN, if_pos h]
    rfl
  · refine ⟨p, bare_of rfl ((g49_eq _).trans ?_), .inr ⟨hp, h⟩⟩
    have e : loopO (g49_L1 s) ([.int .i64 0, .int .i64 0, .int .i64 1], St.mk 0 0 Tr.leaf) = _ := e
    simp only [g49, asS_str, he, ifB_false, e, bindO_ok, unc_cons, asI_int, un0_nil, sel2_one, chN, if_neg h]
theorem valid_loop (st : St) : ∀ (n : Nat) (s : List UInt8), s.length ≤ n → loopO g36_L1 ([.bool false, .str s], st) = some (if validS s then (0, [.bool false], st) else (1, [.bool false], st))
  | n, [], _ => by
    refine loopO_inr ?_
    simp only [g36_L1, unc_cons, asB_bool, asS_str, un0_nil, show (!(([] : List UInt8) == [])) = false from rfl, ifB_false]
    rfl
  | 0, _ :: _, h => by simp at h
  | n + 1, c :: l, h => by
    obtain ⟨p, e, hp⟩ := ref_rune (s := c :: l) (by simp)
    have hc : ∀ {β : Type} (st : St) (K : Kv β), callS (orc vE) 49 [.str (c :: l)] st K = K (.tup [.int .i64 p, .int .i64 (chN (c :: l) : Int)]) st q0 := fun st K => callS_bare st K rfl rfl rfl e
    rw [validS_step (l := c :: l) (by simp)]
    rcases hp with ⟨h1, h2⟩ | ⟨h1, h2⟩
    · rw [if_pos h2]
      refine loopO_inr ?_
      simp only [g36_L1, unc_cons, asB_bool, asS_str, un0_nil, show (!((c :: l : List UInt8) == [])) = true from rfl, ifB_true, hc, unT_tup, nthS_zero, nthS_one, asI_int, ifB_decide, if_pos h1]
      rfl
    · rw [if_neg h2]
      have hz := szL_le (l := c :: l) (by simp)
      have hch : chN (c :: l) = szL (c :: l) := by unfold chN; rw [if_neg h2]
      have h1' : ¬ p < 0 := by omega
      rw [loopO_inl (s' := ([.bool false, .str ((c :: l).drop (szL (c :: l)))], st)), valid_loop st n _ (by rw [List.length_drop]; omega)]
      simp only [g36_L1, unc_cons, asB_bool, asS_str, un0_nil, show (!((c :: l : List UInt8) == [])) = true from rfl, ifB_true, hc, hch, unT_tup, nthS_zero, nthS_one, asI_int, ifB_decide, if_neg h1', uptoS_nat hz, List.take_length, letV_eq]
theorem ref_valid (s : List UInt8) : (orc vE).bare 36 [.str s] = some (.bool (validS s)) := by
  refine bare_of rfl ((g36_eq _).trans ?_)
  have e := valid_loop (St.mk 0 0 Tr.leaf) s.length s (Nat.le_refl _)
  simp only [g36, asS_str, e]
  cases validS s <;> simp [sel2_zero, sel2_one]
end Go.Proofs.YtkknkhniadiapaaDoor.Vm
namespace Go.Proofs.YtkknkhniadiapaaDoor.Vm
open Go Go.VM Go.Proofs Go.Store Go.Lib Go.Lex
def chgR (c : Chg) : AV := .agg [.bool c.whole, .int .i64 c.l1, .int .i64 c.c1, .int .i64 c.l2, .int .i64 c.c2, .str c.text]
def placeR (s : B) (c : Chg) : Option (Nat × Nat) := if c.whole = true then some (0, s.length) else spanR s c.l1 c.c1 c.l2 c.c2
theorem doneR_def (s : B) (c : Chg) : doneR s c = match placeR s c with
    | none => .error 60
    | some (a, b) => if 65536 < c.text.length ∨ 65536 < s.length - (b - a) + c.text.length then .error 40
      else if validS (s.take a ++ c.text ++ s.drop b) = true then .ok (s.take a ++ c.text ++ s.drop b) else .error 4 := rfl
theorem placeR_in {s : B} (hv : validS s = true) {c : Chg} {a b : Nat} (h : placeR s c = some (a, b)) : a ≤ b ∧ b ≤ s.length := by
  unfold placeR at h
  split at h
  · cases h; exact ⟨Nat.zero_le _, Nat.le_refl _⟩
  · rw [spanR_eq hv] at h; exact spanT_in h
def doneA : Except Nat B → AV
  | .error e => .tup [.str [], .int .i64 (e : Int)]
  | .ok t => .tup [.str t, .int .i64 0]
theorem done_okR {s : B} {cs : List Chg} {x : AV} (hv : validS s = true) (hs : s.length ≤ 65536) (hx : IsSl 6 x (cs.map chgR)) (hc : ∀ c ∈ cs, c.text.length ≤ 100000) (hl : cs.length ≤ 1000000) : (orc vE).bare 37 [.str s, x] = some (doneA (doneRL s cs)) := by
  have hlen : (cs.map chgR).length = cs.length := List.length_map _
  have csp := fun {t : B} (ht : t.length ≤ 65536) (a b c d : Int) {γ : Type} (st : St) (K : Kv γ) => callS_bare (f := 50) (args := [.str t, .agg [.int .i64 a, .int .i64 b, .int .i64 c, .int .i64 d]]) st K rfl rfl rfl (span_okR (show t.length ≤ 1000000 by omega) a b c d)
  have cva := fun (t : B) {γ : Type} (st : St) (K : Kv γ) => callS_bare (f := 36) (args := [.str t]) st K rfl rfl rfl (ref_valid t)
  refine Goes.eq (Goes.bare rfl (Goes.step (g37_eq _ _) ?_))
  simp only [g37, asS_str]
  refine Goes.bind (R := fun c => ∃ st, (∃ t, doneRL s cs = .ok t ∧ c = (0, [.str t, .str [], .int .i64 0], st)) ∨ (∃ t e, doneRL s cs = .error e ∧ c = (1, [.str t, .str [], .int .i64 (e : Int)], st)))
    (Goes.loop (I := fun n c => ∃ (t : B) (i : Nat) (l : List Chg) (st : St), c = ([.str t, .str [], .int .i64 0, .int .i64 (i : Int)], st) ∧ cs.drop i = l ∧ doneRL t l = doneRL s cs ∧ validS t = true ∧ t.length ≤ 65536 ∧ st.ro ≤ st.h ∧ i ≤ cs.length ∧ n = l.length) ?_ cs.length _
      ⟨s, 0, cs, S0, rfl, rfl, rfl, hv, hs, Nat.le_refl _, Nat.zero_le _, rfl⟩) ?_
  · rintro n c ⟨t, i, l, st, rfl, hd, hr, hvt, ht, hro, hi, rfl⟩
    cases l with
    | nil =>
      have := List.drop_eq_nil_iff.1 hd
      have q : ¬ (i : Int) < (cs.length : Int) := by omega
      simp only [g37_L1, unc_cons, asS_str, asI_int, un0_nil, hx.len, hlen, ifB_decide, if_neg q]
      exact Goes.some ⟨st, .inl ⟨t, hr.symm, rfl⟩⟩
    | cons c l =>
      obtain ⟨hg, hdr, hlt⟩ := drop_cons hd
      have q : (i : Int) < (cs.length : Int) := by omega
      have hg2 : (cs.map chgR)[i]? = some (chgR c) := by rw [List.getElem?_map, hg]; rfl
      have ix : ∀ {β : Type} (st : St) (K : AV → List Nat → Option β), idxA 6 x (i : Int) st K = K (.ip [.bool c.whole, .int .i64 c.l1, .int .i64 c.c1, .int .i64 c.l2, .int .i64 c.c2, .str c.text]) [] := fun st K => hx.idx hg2 st K
      have hcl := hc c (List.mem_of_getElem? hg)
      have hr : (match doneR t c with | .error e => Except.error e | .ok u => doneRL u l) = doneRL s cs := hr
      rw [doneR_def] at hr
      have hcl0 := hcl
      simp only [g37_L1, unc_cons, asS_str, asI_int, un0_nil, hx.len, hlen, ifB_decide, if_pos q]
      refine Goes.valloc (Vw.start hro) fun s1 e1 v1 => Goes.vstore [] v1 fun s2 fx e2 v2 => ?_
      simp only [ix, fldA_ip, List.drop_zero, loadS_ip, takeO_one, bindO_ok, asB_bool]
      refine Goes.bind (R := fun r => ∃ st', (∃ a b, placeR t c = some (a, b) ∧ r = .inl ([.str [], .int .i64 0], st') ∧ Vw st' [(st.h, TSp, [.int .i64 (a : Int), .int .i64 (b : Int)])]) ∨ (placeR t c = none ∧ r = .inr (.inr (1, [.str t, .str [], .int .i64 60], st')))) ?_ ?_
      · unfold placeR
        cases hw : c.whole with
        | true =>
          simp only [Bool.not_true, ifB_false, if_true]
          exact Goes.some ⟨s2, .inl ⟨0, t.length, rfl, rfl, v2⟩⟩
        | false =>
          simp only [Bool.not_false, ifB_true, Bool.false_eq_true, if_false, List.drop_succ_cons, List.drop_zero]
          have tk4 : ∀ (a b c d e : AV), takeO 4 true [a, b, c, d, e] = some (.agg [a, b, c, d]) := fun _ _ _ _ _ => rfl
          simp only [tk4, bindO_ok, unA_agg, unc_cons, asI_int, un0_nil, csp ht]
          cases spanR t c.l1 c.c1 c.l2 c.c2 with
          | none =>
            simp only [spanA, unT_tup, nthS_zero, nthS_one, unA_agg, unc_cons, asI_int, un0_nil]
            refine Goes.valloc v2 fun s3 e3 v3 => Goes.vstore [] v3 fun s4 fx4 e4 v4 => ?_
            simp only [ifB_bne, show ¬ ((60 : Int) = 0) by decide, if_false]
            exact Goes.some ⟨s4, .inr ⟨trivial, rfl⟩⟩
          | some p =>
            obtain ⟨a, b⟩ := p
            simp only [spanA, unT_tup, nthS_zero, nthS_one, unA_agg, unc_cons, asI_int, un0_nil]
            refine Goes.valloc v2 fun s3 e3 v3 => Goes.vstore [] v3 fun s4 fx4 e4 v4 => ?_
            have g4 := v4.get List.mem_cons_self
            simp only [ifB_bne, if_true, loadS_mp g4, List.drop_zero, tk2, bindO_ok, unA_agg, unc_cons, asI_int, un0_nil]
            refine Goes.vstore [(s2.h, TSp, [.int .i64 (a : Int), .int .i64 (b : Int)])] v4 fun s5 fx5 e5 v5 => ?_
            exact Goes.some ⟨s5, .inl ⟨a, b, rfl, rfl, v5.sub (List.sublist_cons_self _ _)⟩⟩
      · rintro r ⟨st', ⟨a, b, hp, rfl, v3⟩ | ⟨hp, rfl⟩⟩
        · rw [hp] at hr
          obtain ⟨hab, hbl⟩ := placeR_in hvt hp
          have g3 := v3.get List.mem_cons_self
          have hw1 : IntKind.wrap .i64 ((b : Int) - (a : Int)) = ((b - a : Nat) : Int) := by rw [wrap_i64 (by omega) (by omega)]; omega
          have hw2 : IntKind.wrap .i64 ((t.length : Int) - ((b - a : Nat) : Int)) = ((t.length - (b - a) : Nat) : Int) := by rw [wrap_i64 (by omega) (by omega)]; omega
          have hw3 : IntKind.wrap .i64 (((t.length - (b - a) : Nat) : Int) + (c.text.length : Int)) = ((t.length - (b - a) + c.text.length : Nat) : Int) := wrapA (by omega)
          simp only [onSum_inl, unc_cons, asS_str, asI_int, un0_nil, ix, fldA_ip, List.drop_succ_cons, List.drop_zero, loadS_ip, takeO_one, bindO_ok]
          refine Goes.bind (R := fun r => r = ([AV.bool (decide (65536 < c.text.length ∨ 65536 < t.length - (b - a) + c.text.length))], st')) ?_ ?_
          · by_cases h1 : 65536 < c.text.length
            · simp only [ifB_decide, if_pos (show (c.text.length : Int) > 65536 by omega)]
              exact Goes.some (congrArg (fun b => ([AV.bool b], st')) (decide_eq_true (.inl h1)).symm)
            · simp only [ifB_decide, if_neg (show ¬ (c.text.length : Int) > 65536 by omega), loadS_mp g3, List.drop_succ_cons, List.drop_zero, takeO_one, bindO_ok, asI_int, letV_eq, hw1, hw2, hw3]
              exact Goes.some (congrArg (fun b => ([AV.bool b], st')) (decide_eq_decide.2 (by omega)))
          rintro r rfl
          simp only [unc_cons, asB_bool, un0_nil]
          by_cases hq : 65536 < c.text.length ∨ 65536 < t.length - (b - a) + c.text.length
          · simp only [if_pos hq] at hr
            rw [decide_eq_true hq]
            simp only [ifB_true]
            exact Goes.some ⟨st', .inr ⟨t, 40, hr.symm, rfl⟩⟩
          · simp only [if_neg hq] at hr
            rw [decide_eq_false hq]
            have cpt := fun {γ : Type} (st : St) (K : Kv γ) => callS_bare (f := 51) st K rfl rfl rfl (put_okR (t := c.text) (show a ≤ t.length by omega) hbl (show t.length ≤ 1000000 by omega) (by omega))
            simp only [ifB_false, loadS_mp g3, List.drop_zero, tk2, bindO_ok, unA_agg, unc_cons, asI_int, un0_nil, cpt, asS_str, cva, asB_bool]
            cases hvd : validS (t.take a ++ c.text ++ t.drop b) with
            | false =>
              rw [hvd] at hr
              simp only [Bool.false_eq_true, if_false] at hr
              simp only [Bool.not_false, ifB_true]
              exact Goes.some ⟨st', .inr ⟨_, 4, hr.symm, rfl⟩⟩
            | true =>
              rw [hvd] at hr
              simp only [if_true] at hr
              have hwi : IntKind.wrap .i64 ((i : Int) + 1) = ((i + 1 : Nat) : Int) := wrapA1 (by omega)
              simp only [Bool.not_true, ifB_false, letV_eq, hwi]
              exact Goes.some ⟨l.length, Nat.lt_succ_self _, t.take a ++ c.text ++ t.drop b, i + 1, l, st', rfl, hdr, hr, hvd, by simp only [List.length_append, List.length_take, List.length_drop]; omega, v3.ro, hlt, rfl⟩
        · rw [hp] at hr
          simp only [onSum_inr]
          exact Goes.some ⟨st', .inr ⟨t, 60, hr.symm, rfl⟩⟩
  · rintro c ⟨st, ⟨t, h, rfl⟩ | ⟨t, e, h, rfl⟩⟩
    · rw [h]
      simp only [unc_cons, asS_str, asI_int, un0_nil, sel2_zero]
      exact Goes.some rfl
    · rw [h]
      simp only [unc_cons, asS_str, asI_int, un0_nil, sel2_one]
      exact Goes.some rfl
end Go.Proofs.YtkknkhniadiapaaDoor.Vm
namespace Go.Proofs.YtkknkhniadiapaaDoor.Vm
open Go Go.VM Go.Proofs
noncomputable def w34_L1 (x0 : AV) (l0 : List UInt8) : Car → Option (Car ⊕ Nat × Car) := fun c1 => unc (Prod.fst c1) fun v2 l3 => asI .i64 v2 fun n4 => unc l3 fun v5 l6 => asI .i64 v5 fun n7 => un0 l6 (chk (notNil x0) (fldA 0 x0 fun v8 => loadS 1 false v8 (Prod.snd c1) fun v9 _x => lenS v9 fun k11 => ifB (decide (n7 < (↑k11 : Int))) (chk (notNil x0) (fldA 0 x0 fun v12 => loadS 1 false v12 (Prod.snd c1) fun v13 _x => idxA 2 v13 n7 (Prod.snd c1) fun v15 _x => fldA 0 v15 fun v17 => loadS 1 false v17 (Prod.snd c1) fun v18 _x => asS v18 fun l20 => ifB (l20 == l0) (some (Sum.inr (1, [AV.int .i64 n7], Prod.snd c1))) (letV (IntKind.wrap .i64 (n7 + 1)) fun n21 => some (Sum.inl ([AV.int .i64 n4, AV.int .i64 n21], Prod.snd c1))))) (some (Sum.inr (0, [AV.int .i64 n4], Prod.snd c1)))))
noncomputable def w34 : AV → AV → St → Option (AV × St) := fun x0 x1 st => asS x1 fun l0 => bindO (loopO (w34_L1 x0 l0) ([AV.int .i64 0, AV.int .i64 0], st)) fun c22 => unc (Prod.fst (Prod.snd c22)) fun v23 l24 => asI .i64 v23 fun n25 => un0 l24 (sel2 (Prod.fst c22) (some (AV.int .i64 (-1), Prod.snd (Prod.snd c22))) fun _x => some (AV.int .i64 n25, Prod.snd (Prod.snd c22)))
theorem w34_eq (x0 x1 : AV) (st : St) : wideS vE 34 [x0, x1] st = w34 x0 x1 st := by kernel_rfl
noncomputable def w13 : AV → AV → AV → AV → St → Option (AV × St) := fun x0 x1 x2 x3 st => asS x1 fun l0 => asI .i64 x2 fun n1 => asS x3 fun l2 => callS (orc vE) 34 [x0, AV.str l0] st fun v3 st4 _x => asI .i64 v3 fun n6 => ifB (decide (n6 ≥ 0)) (some (AV.int .i64 6, st4)) (chk (notNil x0) (fldA 0 x0 fun v7 => loadS 1 false v7 st4 fun v8 _x => lenS v8 fun k10 => ifB (decide ((↑k10 : Int) ≥ 32)) (some (AV.int .i64 3, st4)) (callS (orc vE) 35 [AV.int .i64 n1] st4 fun v11 st12 _x => asB v11 fun b14 => ifB (!b14) (some (AV.int .i64 1, st12)) (ifB (decide ((↑(List.length l2) : Int) > 65536)) (some (AV.int .i64 40, st12)) (callS (orc vE) 36 [AV.str l2] st12 fun v15 st16 _x => asB v15 fun b18 => ifB (!b18) (some (AV.int .i64 4, st16)) (chk (notNil x0) (fldA 0 x0 fun v19 => loadS 1 false v19 st16 fun v20 _x => planS (orc vE) (rowAnyP (TI.mk (U.struct [(0, 9), (1, 80)]) 2 40 [AV.str [], AV.nils] true true) 82 v20 (AV.sl 2 [AV.agg [AV.str l0, AV.sl 2 [AV.agg [AV.int .i64 n1, AV.str l2]] Perm.shut]] Perm.shut)) st16 fun v24 st25 _x => chk (notNil x0) (fldA 0 x0 fun v27 => asOne v24 (asOne v24 (storeS (orc vE) 1 v27 v24 [v24] st25 fun _x st29 _x_1 => some (AV.int .i64 0, st29)))))))))))
theorem w13_eq (x0 x1 x2 x3 : AV) (st : St) : wideS vE 13 [x0, x1, x2, x3] st = w13 x0 x1 x2 x3 st := by kernel_rfl
noncomputable def w17_L1 (x0 : AV) (n1 : Int) (n5 : Int) : Car → Option (Car ⊕ Nat × Car) := fun c6 => unc (Prod.fst c6) fun v7 l8 => asS v7 fun l9 => unc l8 fun v10 l11 => asI .i64 v10 fun n12 => unc l11 fun v13 l14 => asI .i64 v13 fun n15 => un0 l14 (bindO (ifB (decide (n5 ≥ 0)) (chk (notNil x0) (fldA 0 x0 fun v16 => loadS 1 false v16 (Prod.snd c6) fun v17 _x => idxA 2 v17 n5 (Prod.snd c6) fun v19 _x => fldA 1 v19 fun v21 => loadS 1 false v21 (Prod.snd c6) fun v22 _x => lenS v22 fun k24 => some ([AV.bool (decide (n15 < (↑k24 : Int)))], Prod.snd c6))) (some ([AV.bool false], Prod.snd c6))) fun c25 => unc (Prod.fst c25) fun v26 l27 => asB v26 fun b28 => un0 l27 (ifB b28 (chk (notNil x0) (fldA 0 x0 fun v29 => loadS 1 false v29 (Prod.snd c25) fun v30 _x => idxA 2 v30 n5 (Prod.snd c25) fun v32 _x => fldA 1 v32 fun v34 => loadS 1 false v34 (Prod.snd c25) fun v35 _x => idxA 2 v35 n15 (Prod.snd c25) fun v37 _x => fldA 0 v37 fun v39 => loadS 1 false v39 (Prod.snd c25) fun v40 _x => asI .i64 v40 fun n42 => ifB (n42 == n1) (chk (notNil x0) (fldA 0 x0 fun v43 => loadS 1 false v43 (Prod.snd c25) fun v44 _x => idxA 2 v44 n5 (Prod.snd c25) fun v46 _x => fldA 1 v46 fun v48 => loadS 1 false v48 (Prod.snd c25) fun v49 _x => idxA 2 v49 n15 (Prod.snd c25) fun v51 _x => fldA 1 v51 fun v53 => loadS 1 false v53 (Prod.snd c25) fun v54 _x => asS v54 fun l56 => some (Sum.inr (1, [AV.str l56, AV.int .i64 0], Prod.snd c25)))) (letV (IntKind.wrap .i64 (n15 + 1)) fun n57 => some (Sum.inl ([AV.str l9, AV.int .i64 n12, AV.int .i64 n57], Prod.snd c25))))) (some (Sum.inr (0, [AV.str l9, AV.int .i64 n12], Prod.snd c25)))))
noncomputable def w17 : AV → AV → AV → St → Option (AV × St) := fun x0 x1 x2 st => asS x1 fun l0 => asI .i64 x2 fun n1 => callS (orc vE) 34 [x0, AV.str l0] st fun v2 st3 _x => asI .i64 v2 fun n5 => bindO (loopO (w17_L1 x0 n1 n5) ([AV.str [], AV.int .i64 0, AV.int .i64 0], st3)) fun c58 => unc (Prod.fst (Prod.snd c58)) fun v59 l60 => asS v59 fun l61 => unc l60 fun v62 l63 => asI .i64 v62 fun n64 => un0 l63 (sel2 (Prod.fst c58) (some (AV.tup [AV.str [], AV.int .i64 5], Prod.snd (Prod.snd c58))) fun _x => some (AV.tup [AV.str l61, AV.int .i64 n64], Prod.snd (Prod.snd c58)))
theorem w17_eq (x0 x1 x2 : AV) (st : St) : wideS vE 17 [x0, x1, x2] st = w17 x0 x1 x2 st := by kernel_rfl
noncomputable def w20_L1 (x0 : AV) : Car → Option (Car ⊕ Nat × Car) := fun c0 => unc (Prod.fst c0) fun v1 l2 => unc l2 fun v3 l4 => asI .i64 v3 fun n5 => un0 l4 (chk (notNil x0) (fldA 0 x0 fun v6 => loadS 1 false v6 (Prod.snd c0) fun v7 _x => lenS v7 fun k9 => ifB (decide (n5 < (↑k9 : Int))) (chk (notNil x0) (fldA 0 x0 fun v10 => loadS 1 false v10 (Prod.snd c0) fun v11 _x => idxA 2 v11 n5 (Prod.snd c0) fun v13 _x => fldA 0 v13 fun v15 => loadS 1 false v15 (Prod.snd c0) fun v16 _x => asS v16 fun l18 => appS 1 16 9 v1 [AV.str l18] (Prod.snd c0) fun v19 st20 _x => letV (IntKind.wrap .i64 (n5 + 1)) fun n22 => some (Sum.inl ([v19, AV.int .i64 n22], st20)))) (some (Sum.inr (0, [v1], Prod.snd c0)))))
noncomputable def w20 : AV → St → Option (AV × St) := fun x0 st => bindO (loopO (w20_L1 x0) ([AV.nils, AV.int .i64 0], st)) fun c23 => unc (Prod.fst (Prod.snd c23)) fun v24 l25 => un0 l25 (some (oneOf [v24], Prod.snd (Prod.snd c23)))
theorem w20_eq (x0 : AV) (st : St) : wideS vE 20 [x0] st = w20 x0 st := by kernel_rfl
noncomputable def w22 : AV → AV → St → Option (AV × St) := fun x0 x1 st => asS x1 fun l0 => callS (orc vE) 34 [x0, AV.str l0] st fun v1 st2 _x => asI .i64 v1 fun n4 => ifB (decide (n4 < 0)) (some (AV.tup [AV.int .i64 0, AV.str [], AV.int .i64 5], st2)) (chk (notNil x0) (fldA 0 x0 fun v5 => loadS 1 false v5 st2 fun v6 l7 => idxA 2 v6 n4 st2 fun v8 l9 => fldA 1 v8 fun v10 => loadS 1 false v10 st2 fun v11 l12 => chk (notNil x0) (fldA 0 x0 fun v13 => loadS 1 false v13 st2 fun v14 l15 => idxA 2 v14 n4 st2 fun v16 l17 => fldA 1 v16 fun v18 => loadS 1 false v18 st2 fun v19 l20 => lenS v19 fun k21 => letV (IntKind.wrap .i64 ((↑k21 : Int) - 1)) fun n22 => idxA 2 v11 n22 st2 fun v23 l24 => loadS 2 true v23 st2 fun v25 l26 => un_is v25 fun n31 l34 => (letSt (St.add st2 (VM.Obj.cells 79 [AV.int .i64 0, AV.str []])) fun st35 => chk (apart (Fx.mk l26 Did.kept) (Fx.mk [] (Did.made (St.h st2) (VM.Obj.cells 79 [AV.int .i64 0, AV.str []]))) && (apart (Fx.mk l24 Did.kept) (Fx.mk [] (Did.made (St.h st2) (VM.Obj.cells 79 [AV.int .i64 0, AV.str []]))) && (apart (Fx.mk l20 Did.kept) (Fx.mk [] (Did.made (St.h st2) (VM.Obj.cells 79 [AV.int .i64 0, AV.str []]))) && (apart (Fx.mk l17 Did.kept) (Fx.mk [] (Did.made (St.h st2) (VM.Obj.cells 79 [AV.int .i64 0, AV.str []]))) && (apart (Fx.mk l15 Did.kept) (Fx.mk [] (Did.made (St.h st2) (VM.Obj.cells 79 [AV.int .i64 0, AV.str []]))) && (apart (Fx.mk l12 Did.kept) (Fx.mk [] (Did.made (St.h st2) (VM.Obj.cells 79 [AV.int .i64 0, AV.str []]))) && (apart (Fx.mk l9 Did.kept) (Fx.mk [] (Did.made (St.h st2) (VM.Obj.cells 79 [AV.int .i64 0, AV.str []]))) && (apart (Fx.mk l7 Did.kept) (Fx.mk [] (Did.made (St.h st2) (VM.Obj.cells 79 [AV.int .i64 0, AV.str []]))) && true)))))))) (storeS (orc vE) 2 (AV.mp (St.h st2) 0) (AV.agg [AV.int .i64 n31, AV.str l34]) [AV.int .i64 n31, AV.str l34] st35 fun _x st37 _x_1 => loadS 1 false (AV.mp (St.h st2) 0) st37 fun v39 _x => asI .i64 v39 fun n41 => loadS 1 false (AV.mp (St.h st2) 1) st37 fun v42 _x => asS v42 fun l44 => some (AV.tup [AV.int .i64 n41, AV.str l44, AV.int .i64 0], st37))))))
theorem w22_eq (x0 x1 : AV) (st : St) : wideS vE 22 [x0, x1] st = w22 x0 x1 st := by kernel_rfl
noncomputable def w24_L1 (x0 : AV) (n4 : Int) : Car → Option (Car ⊕ Nat × Car) := fun c5 => unc (Prod.fst c5) fun v6 l7 => unc l7 fun v8 l9 => asI .i64 v8 fun n10 => un0 l9 (chk (notNil x0) (fldA 0 x0 fun v11 => loadS 1 false v11 (Prod.snd c5) fun v12 _x => idxA 2 v12 n4 (Prod.snd c5) fun v14 _x => fldA 1 v14 fun v16 => loadS 1 false v16 (Prod.snd c5) fun v17 _x => lenS v17 fun k19 => ifB (decide (n10 < (↑k19 : Int))) (chk (notNil x0) (fldA 0 x0 fun v20 => loadS 1 false v20 (Prod.snd c5) fun v21 _x => idxA 2 v21 n4 (Prod.snd c5) fun v23 _x => fldA 1 v23 fun v25 => loadS 1 false v25 (Prod.snd c5) fun v26 _x => idxA 2 v26 n10 (Prod.snd c5) fun v28 _x => fldA 0 v28 fun v30 => loadS 1 false v30 (Prod.snd c5) fun v31 _x => asI .i64 v31 fun n33 => appS 1 8 3 v6 [AV.int .i64 n33] (Prod.snd c5) fun v34 st35 _x => letV (IntKind.wrap .i64 (n10 + 1)) fun n37 => some (Sum.inl ([v34, AV.int .i64 n37], st35)))) (some (Sum.inr (0, [v6], Prod.snd c5)))))
noncomputable def w24 : AV → AV → St → Option (AV × St) := fun x0 x1 st => asS x1 fun l0 => callS (orc vE) 34 [x0, AV.str l0] st fun v1 st2 _x => asI .i64 v1 fun n4 => ifB (decide (n4 < 0)) (some (AV.tup [AV.nils, AV.int .i64 5], st2)) (bindO (loopO (w24_L1 x0 n4) ([AV.nils, AV.int .i64 0], st2)) fun c38 => unc (Prod.fst (Prod.snd c38)) fun v39 l40 => un0 l40 (some (AV.tup [v39, AV.int .i64 0], Prod.snd (Prod.snd c38))))
theorem w24_eq (x0 x1 : AV) (st : St) : wideS vE 24 [x0, x1] st = w24 x0 x1 st := by kernel_rfl
noncomputable def w14 : AV → AV → AV → AV → St → Option (AV × St) := fun x0 x1 x2 x3 st => asS x1 fun l0 => asI .i64 x2 fun n1 => callS (orc vE) 34 [x0, AV.str l0] st fun v2 st3 _x => asI .i64 v2 fun n5 => ifB (decide (n5 < 0)) (some (AV.int .i64 5, st3)) (callS (orc vE) 35 [AV.int .i64 n1] st3 fun v6 st7 _x => asB v6 fun b9 => ifB (!b9) (some (AV.int .i64 1, st7)) (chk (notNil x0) (fldA 0 x0 fun v10 => loadS 1 false v10 st7 fun v11 _x => idxA 2 v11 n5 st7 fun v13 _x => loadS 2 true v13 st7 fun v15 _x => un_sv v15 fun l21 v22 => (letSt (St.add st7 (VM.Obj.cells 82 [AV.str [], AV.nils])) fun st24 => asOne v22 (storeS (orc vE) 2 (AV.mp (St.h st7) 0) (AV.agg [AV.str l21, v22]) [AV.str l21, v22] st24 fun _x st26 _x_1 => loadS 1 false (AV.mp (St.h st7) 1) st26 fun v28 _x => loadS 1 false (AV.mp (St.h st7) 1) st26 fun v30 _x => lenS v30 fun k32 => letV (IntKind.wrap .i64 ((↑k32 : Int) - 1)) fun n33 => idxA 2 v28 n33 st26 fun v34 _x => loadS 2 true v34 st26 fun v36 _x => un_is v36 fun n42 l45 => (letSt (St.add st26 (VM.Obj.cells 79 [AV.int .i64 0, AV.str []])) fun st46 => storeS (orc vE) 2 (AV.mp (St.h st26) 0) (AV.agg [AV.int .i64 n42, AV.str l45]) [AV.int .i64 n42, AV.str l45] st46 fun _x st48 _x_2 => loadS 1 false (AV.mp (St.h st26) 0) st48 fun v50 _x => asI .i64 v50 fun n52 => ifB (decide (n1 ≤ n52)) (some (AV.int .i64 67, st48)) (loadS 1 false (AV.mp (St.h st26) 1) st48 fun v53 _x => asS v53 fun l55 => callS (orc vE) 37 [AV.str l55, x3] st48 fun v56 st57 _x => unT v56 fun l59 => nthS l59 0 fun v60 => asS v60 fun l61 => unT v56 fun l62 => nthS l62 1 fun v63 => asI .i64 v63 fun n64 => ifB (n64 != 0) (some (AV.int .i64 n64, st57)) (loadS 1 false (AV.mp (St.h st7) 1) st57 fun v65 _x => elemsS v65 fun l67 => fitTs true l67 fun l68 => chk (sizesOk 2 l68) (appS 2 24 79 (AV.sl 2 [] Perm.shut) l68 st57 fun v69 st70 _x => appS 2 24 79 v69 [AV.agg [AV.int .i64 n1, AV.str l61]] st70 fun v73 st74 _x => lenS v73 fun k76 => bindO (ifB (decide ((↑k76 : Int) > 8)) (lenS v73 fun k77 => letV (IntKind.wrap .i64 ((↑k77 : Int) - 8)) fun n78 => sliceS 2 v73 (some n78) none none fun v79 => some ([v79], st74)) (some ([v73], st74))) fun c80 => unc (Prod.fst c80) fun v81 l82 => un0 l82 (chk (notNil x0) (fldA 0 x0 fun v83 => loadS 1 false v83 (Prod.snd c80) fun v84 _x => asOne v81 (idxA 2 v84 n5 (Prod.snd c80) fun v87 _x => asOne v81 (storeS (orc vE) 2 v87 (AV.agg [AV.str l0, v81]) [AV.str l0, v81] (Prod.snd c80) fun _x st90 _x_3 => some (AV.int .i64 0, st90))))))))))))))
theorem w14_eq (x0 x1 x2 x3 : AV) (st : St) : wideS vE 14 [x0, x1, x2, x3] st = w14 x0 x1 x2 x3 st := by kernel_rfl
end Go.Proofs.YtkknkhniadiapaaDoor.Vm
namespace Go.Proofs.YtkknkhniadiapaaDoor.Vm
open Go Go.VM Go.Proofs Go.Store Go.Lib Go.Lex
structure RD where
  nm : B
  vs : List (Int × B)
def verR (v : Int × B) : AV := .agg [.int .i64 v.1, .str v.2]
def OS (z : Nat) (x : AV) (es : List AV) : Prop := IsSl z x es ∨ ∃ k, x = .sl z es (.own k) ∧ es.length ≤ 9223372036854775807
theorem OS.len {z : Nat} {x : AV} {es : List AV} (h : OS z x es) {β : Type} (K : Nat → Option β) : lenS x K = K es.length := by
  rcases h with h | ⟨k, rfl, _⟩
  · exact h.len K
  · rfl
theorem OS.elems {z : Nat} {x : AV} {es : List AV} (h : OS z x es) {β : Type} (K : List AV → Option β) : elemsS x K = K es := by
  rcases h with h | ⟨k, rfl, _⟩
  · exact h.elems K
  · rfl
theorem OS.idx {z : Nat} {x : AV} {es : List AV} (h : OS z x es) {k : Nat} {v : AV} (hk : es[k]? = some v) (st : St) {β : Type} (K : AV → List Nat → Option β) : idxA z x (k : Int) st K = K (.ip v.cells) [] := by
  rcases h with h | ⟨j, rfl, hl⟩
  · exact h.idx hk st K
  · exact (show idxA z (.sl z es (.own j)) (k : Int) st K = idxA z (.sl z es .shut) (k : Int) st K from rfl).trans ((IsSl.shut hl).idx hk st K)
def IsR : List RD → List AV → Prop
  | [], es => es = []
  | d :: l, es => ∃ y rest, es = .agg [.str d.nm, y] :: rest ∧ OS 2 y (d.vs.map verR) ∧ IsR l rest
theorem IsR.len : ∀ {L : List RD} {es : List AV}, IsR L es → es.length = L.length
  | [], _, h => by rw [show _ = [] from h]; rfl
  | d :: l, es, h => by obtain ⟨y, rest, rfl, _, h⟩ := h; simp [IsR.len h]
theorem IsR.cells : ∀ {L : List RD} {es : List AV}, IsR L es → ∀ v ∈ es, v.cells.length = 2
  | [], _, h, v, hv => by rw [show _ = [] from h] at hv; cases hv
  | d :: l, es, h, v, hv => by
    obtain ⟨y, rest, rfl, _, h⟩ := h
    rcases List.mem_cons.1 hv with rfl | hv
    · rfl
    · exact IsR.cells h v hv
theorem IsR.at : ∀ {L : List RD} {es : List AV}, IsR L es → ∀ {i : Nat} {d : RD}, L[i]? = some d → ∃ y, es[i]? = some (.agg [.str d.nm, y]) ∧ OS 2 y (d.vs.map verR)
  | [], _, _, i, d, hd => by simp at hd
  | e :: l, es, h, 0, d, hd => by
    obtain ⟨y, rest, rfl, hy, h⟩ := h
    simp only [List.getElem?_cons_zero, Option.some.injEq] at hd
    subst hd
    exact ⟨y, rfl, hy⟩
  | e :: l, es, h, i + 1, d, hd => by
    obtain ⟨y, rest, rfl, hy, h⟩ := h
    simpa using IsR.at h (show l[i]? = some d by simpa using hd)
theorem IsR.app : ∀ {L : List RD} {es : List AV}, IsR L es → ∀ {d : RD} {y : AV}, OS 2 y (d.vs.map verR) → IsR (L ++ [d]) (es ++ [.agg [.str d.nm, y]])
  | [], _, h, d, y, hy => by rw [show _ = [] from h]; exact ⟨y, [], rfl, hy, rfl⟩
  | e :: l, es, h, d, y, hy => by
    obtain ⟨z, rest, rfl, hz, h⟩ := h
    exact ⟨z, _, rfl, hz, IsR.app h hy⟩
abbrev RST : TypeId := 29
abbrev RDT : TypeId := 82
def RSt (st : St) (xp ow : Nat) (L : List RD) : Prop := st.ro = 0 ∧ ∃ v, st.get xp = .ok (.cells RST [v]) ∧ ((v = .nils ∧ L = []) ∨ (v = .gs ow 2 L.length ∧ ∃ es, st.get ow = .ok (.row L.length RDT 2 (flat es)) ∧ IsR L es))
section
variable {st st' : St} {xp ow : Nat} {L : List RD}
def findR (nm : B) : List RD → Nat → Option Nat
  | [], _ => none
  | d :: l, i => if d.nm = nm then some i else findR nm l (i + 1)
def findRI (nm : B) (L : List RD) : Int := match findR nm L 0 with | none => -1 | some k => (k : Int)
theorem rd_cell {es : List AV} (hw : st.get ow = .ok (.row L.length RDT 2 (flat es))) (hi : IsR L es) {i : Nat} {d : RD} (hd : L[i]? = some d) : ∃ y, OS 2 y (d.vs.map verR) ∧
    (∀ {β : Type} (K : AV → List Nat → Option β), loadS 1 false (.gp ow L.length (i * 2 + 0)) st K = K (.str d.nm) [ow]) ∧ (∀ {β : Type} (K : AV → List Nat → Option β), loadS 1 false (.gp ow L.length (i * 2 + 1)) st K = K y [ow]) ∧
    (∀ {β : Type} (K : AV → List Nat → Option β), loadS 2 true (.gp ow L.length (i * 2)) st K = K (.agg [.str d.nm, y]) [ow]) := by
  obtain ⟨y, he, hy⟩ := hi.at hd
  obtain ⟨post, e⟩ := flatEl_at hi.cells he
  refine ⟨y, hy, fun K => ?_, fun K => ?_, fun K => ?_⟩
  · rw [loadS_gp hw, Nat.add_zero, e]; rfl
  · rw [loadS_gp hw, ← List.drop_drop, e]; rfl
  · rw [loadS_gp hw, e]; rfl
theorem find_loopR {es : List AV} (hx : st.get xp = .ok (.cells RST [.gs ow 2 L.length])) (hw : st.get ow = .ok (.row L.length RDT 2 (flat es))) (hi : IsR L es) (hl : L.length ≤ 1000000) (nm : B) : ∀ (m : List RD) (i : Nat), L.drop i = m →
    ∃ r x, loopO (w34_L1 (.mp xp 0) nm) ([.int .i64 0, .int .i64 (i : Int)], st) = some (r, [.int .i64 x], st) ∧ match findR nm m i with | none => r = 0 | some k => r = 1 ∧ x = (k : Int)
  | [], i, hd => by
    have := List.drop_eq_nil_iff.1 hd
    have q : ¬ (i : Int) < (L.length : Int) := by omega
    refine ⟨0, 0, loopO_inr ?_, rfl⟩
    simp only [w34_L1, unc_cons, asI_int, un0_nil, notNil_mp, chk_true, fldA_mp, Nat.add_zero, loadS_mp hx, List.drop_zero, takeO_one, bindO_ok, lenS_gs, ifB_decide, if_neg q]
  | d :: m, i, hd => by
    obtain ⟨hg, hdr, hlt⟩ := drop_cons hd
    have q : (i : Int) < (L.length : Int) := by omega
    obtain ⟨y, hy, l0, _, _⟩ := rd_cell hw hi hg
    have ix := fun {β : Type} (K : AV → List Nat → Option β) => idxA_gs hw hlt K
    unfold findR
    by_cases hn : d.nm = nm
    · rw [if_pos hn]
      refine ⟨1, (i : Int), loopO_inr ?_, rfl, rfl⟩
      simp only [w34_L1, unc_cons, asI_int, un0_nil, notNil_mp, chk_true, fldA_mp, Nat.add_zero, loadS_mp hx, List.drop_zero, takeO_one, bindO_ok, lenS_gs, ifB_decide, if_pos q, ix, fldA_gp]
      refine (l0 _).trans ?_
      simp only [asS_str, hn, beq_self_eq_true, ifB_true]
    · rw [if_neg hn]
      obtain ⟨r, x, e, h⟩ := find_loopR hx hw hi hl nm m (i + 1) hdr
      have hw1 : IntKind.wrap .i64 ((i : Int) + 1) = ((i + 1 : Nat) : Int) := wrapA1 (by omega)
      have hb : (d.nm == nm) = false := beq_eq_false_iff_ne.2 hn
      refine ⟨r, x, (loopO_inl ?_).trans e, h⟩
      simp only [w34_L1, unc_cons, asI_int, un0_nil, notNil_mp, chk_true, fldA_mp, Nat.add_zero, loadS_mp hx, List.drop_zero, takeO_one, bindO_ok, lenS_gs, ifB_decide, if_pos q, ix, fldA_gp]
      refine (l0 _).trans ?_
      simp only [asS_str, hb, ifB_false, letV_eq, hw1]
theorem find_okR (h : RSt st xp ow L) (hl : L.length ≤ 1000000) (nm : B) : (orc vE).wide 34 [.mp xp 0, .str nm] st = some (.int .i64 (findRI nm L), st) := by
  obtain ⟨hr, v, hg, hv⟩ := h
  refine wide_of ((w34_eq _ _ _).trans ?_)
  rcases hv with ⟨rfl, rfl⟩ | ⟨rfl, es, hw, hi⟩
  · have e : loopO (w34_L1 (.mp xp 0) nm) ([.int .i64 0, .int .i64 0], st) = some (0, [.int .i64 0], st) := by
      refine loopO_inr ?_
      simp only [w34_L1, unc_cons, asI_int, un0_nil, notNil_mp, chk_true, fldA_mp, Nat.add_zero, loadS_mp hg, List.drop_zero, takeO_one, bindO_ok]
      rfl
    simp only [w34, asS_str, e, bindO_ok, unc_cons, asI_int, un0_nil, sel2_zero]
    rfl
  · obtain ⟨r, x, e, h⟩ := find_loopR hg hw hi hl nm L 0 rfl
    have e : loopO (w34_L1 (.mp xp 0) nm) ([.int .i64 0, .int .i64 0], st) = some (r, [.int .i64 x], st) := e
    simp only [w34, asS_str, e, bindO_ok, unc_cons, asI_int, un0_nil, findRI]
    cases hf : findR nm L 0 with
    | none => rw [hf] at h; subst h; simp only [sel2_zero]
    | some k => rw [hf] at h; obtain ⟨rfl, rfl⟩ := h; simp only [sel2_one]
theorem bares_mpR (i o : Nat) (l : List AV) (f : FuncId) : (bares ((AV.mp i o :: l).map strip) && !vE.full f) = false := by
  have : bares ((AV.mp i o :: l).map strip) = false := rfl
  rw [this]; rfl
theorem call_findR (h : RSt st xp ow L) (hl : L.length ≤ 1000000) (nm : B) {β : Type} (K : Kv β) : callS (orc vE) 34 [.mp xp 0, .str nm] st K = K (.int .i64 (findRI nm L)) st ⟨[], .all st st⟩ := callS_wide K rfl (bares_mpR _ _ _ _) (find_okR h hl nm)
def okVer (n : Int) : Bool := decide (0 ≤ n ∧ n ≤ 2147483647)
def openR (L : List RD) (nm : B) (no : Int) (tx : B) : Nat :=
  match findR nm L 0 with
  | some _ => 6
  | none => if 32 ≤ L.length then 3 else if okVer no = false then 1 else if 65536 < tx.length then 40 else if validS tx = true then 0 else 4
abbrev rdTI : TI := TI.mk (U.struct [(0, 9), (1, 80)]) 2 40 [AV.str [], AV.nils] true true
theorem fit_rd (nm : B) (no : Int) (tx : B) : fit (.agg [.str nm, .sl 2 [.agg [.int .i64 no, .str tx]] .shut]) = .ok (.agg [.str nm, .sl 2 [.agg [.int .i64 no, .str tx]] .shut]) := rfl
theorem flat_snoc (a : List AV) (v : AV) : flat (a ++ [v]) = flat a ++ flat [v] := by
  induction a with
  | nil => rfl
  | cons x l ih => show x.cells ++ flat (l ++ [v]) = (x.cells ++ flat l) ++ flat [v]; rw [ih, List.append_assoc]
theorem asOne_gs {β : Type} (k z n : Nat) (K : Option β) : asOne (.gs k z n) K = K := rfl
theorem open_okR (h : RSt st xp ow L) (hne : xp ≠ ow) (hl : L.length ≤ 32) (nm : B) (no : Int) (tx : B) : Goes ((orc vE).wide 13 [.mp xp 0, .str nm, .int .i64 no, .str tx] st) (fun r => r.1 = .int .i64 (openR L nm no tx : Int) ∧ (openR L nm no tx ≠ 0 → r.2 = st) ∧
    (openR L nm no tx = 0 → ∃ ow', RSt r.2 xp ow' (L ++ [⟨nm, [(no, tx)]⟩]) ∧ Keeps st r.2 (fun j => j = xp ∨ j = ow) ∧ (ow' = ow ∨ st.h ≤ ow'))) := by
  have cf := fun {β : Type} (K : Kv β) => call_findR h (by omega) nm K
  have cv := fun {β : Type} (st : St) (K : Kv β) => callS_bare (f := 35) st K rfl rfl rfl (version_ok no)
  have cva := fun {β : Type} (st : St) (K : Kv β) => callS_bare (f := 36) st K rfl rfl rfl (ref_valid tx)
  refine Goes.wide (Goes.step (w13_eq _ _ _ _ _) ?_)
  simp only [w13, asS_str, asI_int, cf]
  unfold findRI openR
  cases hf : findR nm L 0 with
  | some k =>
    simp only [ifB_decide, if_pos (show (k : Int) ≥ 0 by omega)]
    exact Goes.some ⟨rfl, fun _ => rfl, fun h => by cases h⟩
  | none =>
    obtain ⟨hr, v, hg, hv⟩ := id h
    have ln : ∀ {β : Type} (K : Nat → Option β), lenS v K = K L.length := fun K => by
      rcases hv with ⟨rfl, rfl⟩ | ⟨rfl, _⟩
      · rfl
      · rfl
    simp only [ifB_decide, show ¬ ((-1 : Int) ≥ 0) by decide, if_false, notNil_mp, chk_true, fldA_mp, Nat.add_zero, loadS_mp hg, List.drop_zero, takeO_one, bindO_ok, ln]
    by_cases h32 : 32 ≤ L.length
    · simp only [if_pos (show (L.length : Int) ≥ 32 by omega), if_pos h32]
      exact Goes.some ⟨rfl, fun _ => rfl, fun h => by cases h⟩
    · simp only [if_neg (show ¬ (L.length : Int) ≥ 32 by omega), if_neg h32, cv, asB_bool]
      cases hb : okVer no with
      | false =>
        have hb' : decide (0 ≤ no ∧ no ≤ 2147483647) = false := hb
        rw [hb']
        simp only [Bool.not_false, ifB_true, if_true]
        exact Goes.some ⟨rfl, fun _ => rfl, fun h => by cases h⟩
      | true =>
        have hb' : decide (0 ≤ no ∧ no ≤ 2147483647) = true := hb
        rw [hb']
        simp only [Bool.not_true, ifB_false, Bool.true_eq_false, if_false, ifB_decide]
        by_cases hbig : 65536 < tx.length
        · simp only [if_pos (show (tx.length : Int) > 65536 by omega), if_pos hbig]
          exact Goes.some ⟨rfl, fun _ => rfl, fun h => by cases h⟩
        · simp only [if_neg (show ¬ (tx.length : Int) > 65536 by omega), if_neg hbig, cva, asB_bool]
          cases hvd : validS tx with
          | false =>
            simp only [Bool.not_false, ifB_true, Bool.false_eq_true, if_false]
            exact Goes.some ⟨rfl, fun _ => rfl, fun h => by cases h⟩
          | true =>
            simp only [Bool.not_true, ifB_false, if_true, loadS_mp hg, List.drop_zero, takeO_one, bindO_ok]
            have row : ∃ ow' s1 fx, Keeps st s1 (· = ow) ∧ (ow' = ow ∨ st.h ≤ ow') ∧ (∃ es, s1.get ow' = .ok (.row (L ++ [(⟨nm, [(no, tx)]⟩ : RD)]).length RDT 2 (flat es)) ∧ IsR (L ++ [⟨nm, [(no, tx)]⟩]) es) ∧
                ∀ {β : Type} (K : Kv β), planS (orc vE) (rowAnyP rdTI RDT v (.sl 2 [.agg [.str nm, .sl 2 [.agg [.int .i64 no, .str tx]] .shut]] .shut)) st K = K (.gs ow' 2 (L ++ [(⟨nm, [(no, tx)]⟩ : RD)]).length) s1 fx := by
              have hy : OS 2 (.sl 2 [.agg [.int .i64 no, .str tx]] .shut) ((RD.mk nm [(no, tx)]).vs.map verR) := .inl (IsSl.shut (Nat.le_of_ble_eq_true rfl))
              have hlen : (L ++ [(⟨nm, [(no, tx)]⟩ : RD)]).length = L.length + 1 := by simp
              rw [hlen]
              rcases hv with ⟨rfl, rfl⟩ | ⟨rfl, es, hw, hi⟩
              · exact ⟨st.h, st.add (.row 1 RDT 2 (flat [.agg [.str nm, .sl 2 [.agg [.int .i64 no, .str tx]] .shut]])), _, Keeps.add _ _ _, .inr (Nat.le_refl _), ⟨_, St.get_add_new, IsR.app (L := []) rfl hy⟩, fun K => row_first (i := rdTI) (fit_rd nm no tx) rfl rfl K⟩
              · have hroom : roomOk (L.length + 1) rdTI = true := room_of (n := L.length + 1) (z := 2) (b := 40) (by omega) (by omega) (by omega)
                refine ⟨ow, st.put ow (.row (L.length + 1) RDT 2 (flat es ++ flat [.agg [.str nm, .sl 2 [.agg [.int .i64 no, .str tx]] .shut]])), _, Keeps.put rfl, .inl rfl, ⟨es ++ [.agg [.str nm, .sl 2 [.agg [.int .i64 no, .str tx]] .shut]], ?_, hi.app hy⟩, fun K => row_next (i := rdTI) hw (by rw [hr]; exact Nat.zero_le _) (fit_rd nm no tx) rfl hroom K⟩
                rw [flat_snoc]
                exact St.get_put_same (St.get_ok.1 hw).1
            obtain ⟨ow', s1, fx, k1, ho, ⟨es', hw', hi'⟩, e1⟩ := row
            refine Goes.step (e1 _) ?_
            have hg1 : s1.get xp = .ok (.cells RST [v]) := k1.old _ _ hne hg
            have hxo : xp ≠ ow' := by
              rcases ho with rfl | ho
              · exact hne
              · have := (St.get_ok.1 hg).1; omega
            simp only [asOne_gs]
            rw [storeS_at (cs := [.gs ow' 2 (L ++ [(⟨nm, [(no, tx)]⟩ : RD)]).length]) (z := 1) hg1 rfl (by simp) (by rw [k1.ro, hr]; exact Nat.zero_le _)]
            have kp : Keeps s1 (s1.put xp (.cells RST (splice [v] 0 [.gs ow' 2 (L ++ [(⟨nm, [(no, tx)]⟩ : RD)]).length]))) (· = xp) := Keeps.put rfl
            refine Goes.some ⟨rfl, fun h => absurd rfl h, fun _ => ⟨ow', ⟨by rw [kp.ro, k1.ro]; exact hr, _, St.get_put_same (St.get_ok.1 hg1).1, .inr ⟨rfl, es', kp.old _ _ (fun e => hxo e.symm) hw', hi'⟩⟩, ?_, ho⟩⟩
            exact (k1.weak fun j hj => .inr hj).trans (kp.weak fun j hj => .inl hj)
structure WayR (st0 st : St) (v : AV) : Prop where
  keeps : Keeps st0 st (fun _ => False)
  new : ∀ j, ownerOf v j → st0.h ≤ j
theorem wayR_nils (st : St) : WayR st st .nils := ⟨Keeps.refl _ _, fun j => by rintro ⟨_, _, h⟩; cases h⟩
theorem WayR.app {st0 : St} {v v' : AV} (h : WayR st0 st v) (k : Keeps st st' (ownerOf v)) (j : ∀ j, ownerOf v' j → ownerOf v j ∨ st.h ≤ j) : WayR st0 st' v' :=
  ⟨Keeps.join h.keeps k fun i hi => .inr (h.new i hi), fun i hi => by
    rcases j i hi with hi | hi
    · exact h.new i hi
    · exact Nat.le_trans h.keeps.h hi⟩
def nmR (d : RD) : AV := .str d.nm
def noR (v : Int × B) : AV := .int .i64 v.1
theorem names_loopR {st0 : St} {es : List AV} (hx : st0.get xp = .ok (.cells RST [.gs ow 2 L.length])) (hw : st0.get ow = .ok (.row L.length RDT 2 (flat es))) (hi : IsR L es) (hl : L.length ≤ 1000000) : ∀ (m : List RD) (i : Nat) (out : List RD) (v : AV) (st : St), L.drop i = m → WayR st0 st v → Own st 1 9 v (out.map nmR) → out.length + m.length ≤ 1000000 →
    ∃ v' st', loopO (w20_L1 (.mp xp 0)) ([v, .int .i64 (i : Int)], st) = some (0, [v'], st') ∧ Own st' 1 9 v' ((out ++ m).map nmR) ∧ WayR st0 st' v'
  | [], i, out, v, st, hd, hW, ho, hlo => by
    have := List.drop_eq_nil_iff.1 hd
    have q : ¬ (i : Int) < (L.length : Int) := by omega
    have hx' := hW.keeps.old _ _ (fun f => f) hx
    refine ⟨v, st, loopO_inr ?_, by simpa using ho, hW⟩
    simp only [w20_L1, unc_cons, asI_int, un0_nil, notNil_mp, chk_true, fldA_mp, Nat.add_zero, loadS_mp hx', List.drop_zero, takeO_one, bindO_ok, lenS_gs, ifB_decide, if_neg q]
  | d :: m, i, out, v, st, hd, hW, ho, hlo => by
    obtain ⟨hg, hdr, hlt⟩ := drop_cons hd
    have q : (i : Int) < (L.length : Int) := by omega
    have hx' := hW.keeps.old _ _ (fun f => f) hx
    have hw' := hW.keeps.old _ _ (fun f => f) hw
    obtain ⟨y, hy, l0, _, _⟩ := rd_cell hw' hi hg
    have ix := fun {β : Type} (K : AV → List Nat → Option β) => idxA_gs hw' hlt K
    have hw1 : IntKind.wrap .i64 ((i : Int) + 1) = ((i + 1 : Nat) : Int) := wrapA1 (by omega)
    obtain ⟨v1, s2, x1, ho2, k2, j2, _, e2⟩ := own_fx (b := 16) [.str d.nm] ho fun _ => room_of (by
      simp only [List.length_map, List.length_cons, List.length_nil] at hlo ⊢; omega) (by omega) (by omega)
    obtain ⟨v', st', e, o3, hW3⟩ := names_loopR hx hw hi hl m (i + 1) (out ++ [d]) v1 s2 hdr (hW.app k2 j2) (by rw [List.map_append]; exact ho2) (by simp only [List.length_append, List.length_cons, List.length_nil] at hlo ⊢; omega)
    refine ⟨v', st', (loopO_inl ?_).trans e, by simpa using o3, hW3⟩
    simp only [w20_L1, unc_cons, asI_int, un0_nil, notNil_mp, chk_true, fldA_mp, Nat.add_zero, loadS_mp hx', List.drop_zero, takeO_one, bindO_ok, lenS_gs, ifB_decide, if_pos q, ix, fldA_gp]
    refine (l0 _).trans ?_
    simp only [asS_str, e2, letV_eq, hw1]
theorem names_okR (h : RSt st xp ow L) (hl : L.length ≤ 1000000) : ∃ v st', (orc vE).wide 20 [.mp xp 0] st = some (v, st') ∧ Own st' 1 9 v (L.map nmR) ∧ WayR st st' v := by
  obtain ⟨hr, v, hg, hv⟩ := h
  rcases hv with ⟨rfl, rfl⟩ | ⟨rfl, es, hw, hi⟩
  · refine ⟨.nils, st, wide_of ((w20_eq _ _).trans ?_), Own.nils (by rw [hr]; exact Nat.zero_le _) _ _, wayR_nils st⟩
    have e : loopO (w20_L1 (.mp xp 0)) ([.nils, .int .i64 0], st) = some (0, [.nils], st) := by
      refine loopO_inr ?_
      simp only [w20_L1, unc_cons, asI_int, un0_nil, notNil_mp, chk_true, fldA_mp, Nat.add_zero, loadS_mp hg, List.drop_zero, takeO_one, bindO_ok]
      rfl
    simp only [w20, e, bindO_ok, unc_cons, un0_nil, oneOf]
  · obtain ⟨v', st', e, ho, hW⟩ := names_loopR hg hw hi hl L 0 [] .nils st rfl (wayR_nils st) (Own.nils (by rw [hr]; exact Nat.zero_le _) _ _) (by simpa using hl)
    have e : loopO (w20_L1 (.mp xp 0)) ([.nils, .int .i64 0], st) = some (0, [v'], st') := e
    refine ⟨v', st', wide_of ((w20_eq _ _).trans ?_), ho, hW⟩
    simp only [w20, e, bindO_ok, unc_cons, un0_nil, oneOf]
theorem kept_loopR {st0 : St} {es : List AV} (hx : st0.get xp = .ok (.cells RST [.gs ow 2 L.length])) (hw : st0.get ow = .ok (.row L.length RDT 2 (flat es))) (hi : IsR L es) {k : Nat} {d : RD} (hd : L[k]? = some d) (hl : d.vs.length ≤ 1000000) : ∀ (m : List (Int × B)) (i : Nat) (out : List (Int × B)) (v : AV) (st : St), d.vs.drop i = m → WayR st0 st v → Own st 1 3 v (out.map noR) → out.length + m.length ≤ 1000000 →
    ∃ v' st', loopO (w24_L1 (.mp xp 0) (k : Int)) ([v, .int .i64 (i : Int)], st) = some (0, [v'], st') ∧ Own st' 1 3 v' ((out ++ m).map noR) ∧ WayR st0 st' v'
  | [], i, out, v, st, hdr, hW, ho, hlo => by
    have := List.drop_eq_nil_iff.1 hdr
    have q : ¬ (i : Int) < ((d.vs.map verR).length : Int) := by rw [List.length_map]; omega
    have hx' := hW.keeps.old _ _ (fun f => f) hx
    have hw' := hW.keeps.old _ _ (fun f => f) hw
    have hk : k < L.length := (List.getElem?_eq_some_iff.1 hd).1
    obtain ⟨y, hy, _, l1, _⟩ := rd_cell hw' hi hd
    have ix := fun {β : Type} (K : AV → List Nat → Option β) => idxA_gs hw' hk K
    refine ⟨v, st, loopO_inr ?_, by simpa using ho, hW⟩
    simp only [w24_L1, unc_cons, asI_int, un0_nil, notNil_mp, chk_true, fldA_mp, Nat.add_zero, loadS_mp hx', List.drop_zero, takeO_one, bindO_ok, ix, fldA_gp]
    refine (l1 _).trans ?_
    simp only [hy.len, ifB_decide, if_neg q]
  | u :: m, i, out, v, st, hdr, hW, ho, hlo => by
    obtain ⟨hg, hdr2, hlt⟩ := drop_cons hdr
    have q : (i : Int) < ((d.vs.map verR).length : Int) := by rw [List.length_map]; omega
    have hx' := hW.keeps.old _ _ (fun f => f) hx
    have hw' := hW.keeps.old _ _ (fun f => f) hw
    have hk : k < L.length := (List.getElem?_eq_some_iff.1 hd).1
    obtain ⟨y, hy, _, l1, _⟩ := rd_cell hw' hi hd
    have ix := fun {β : Type} (K : AV → List Nat → Option β) => idxA_gs hw' hk K
    have iy : ∀ {β : Type} (K : AV → List Nat → Option β), idxA 2 y (i : Int) st K = K (.ip [.int .i64 u.1, .str u.2]) [] := fun K => hy.idx (show (d.vs.map verR)[i]? = some (verR u) by rw [List.getElem?_map, hg]; rfl) st K
    have hw1 : IntKind.wrap .i64 ((i : Int) + 1) = ((i + 1 : Nat) : Int) := wrapA1 (by omega)
    obtain ⟨v1, s2, x1, ho2, k2, j2, _, e2⟩ := own_fx (b := 8) [.int .i64 u.1] ho fun _ => room_of (by
      simp only [List.length_map, List.length_cons, List.length_nil] at hlo ⊢; omega) (by omega) (by omega)
    obtain ⟨v', st', e, o3, hW3⟩ := kept_loopR hx hw hi hd hl m (i + 1) (out ++ [u]) v1 s2 hdr2 (hW.app k2 j2) (by rw [List.map_append]; exact ho2) (by simp only [List.length_append, List.length_cons, List.length_nil] at hlo ⊢; omega)
    refine ⟨v', st', (loopO_inl ?_).trans e, by simpa using o3, hW3⟩
    simp only [w24_L1, unc_cons, asI_int, un0_nil, notNil_mp, chk_true, fldA_mp, Nat.add_zero, loadS_mp hx', List.drop_zero, takeO_one, bindO_ok, ix, fldA_gp]
    refine (l1 _).trans ?_
    simp only [hy.len, ifB_decide, if_pos q]
    refine (l1 _).trans ?_
    simp only [iy, fldA_ip, List.drop_zero, loadS_ip, takeO_one, bindO_ok, asI_int, e2, letV_eq, hw1]
theorem findR_some {nm : B} : ∀ {l : List RD} {i k : Nat}, findR nm l i = some k → i ≤ k ∧ ∃ d, l[k - i]? = some d ∧ d.nm = nm
  | [], _, _, h => by cases h
  | d :: l, i, k, h => by
    unfold findR at h
    split at h
    · cases h
      exact ⟨Nat.le_refl _, d, by rw [Nat.sub_self]; rfl, by assumption⟩
    · obtain ⟨h1, e, h2, h3⟩ := findR_some h
      refine ⟨by omega, e, ?_, h3⟩
      rw [show k - i = (k - (i + 1)) + 1 by omega, List.getElem?_cons_succ]; exact h2
theorem findR_at {nm : B} {k : Nat} (h : findR nm L 0 = some k) : ∃ d, L[k]? = some d ∧ d.nm = nm := by
  obtain ⟨_, d, h1, h2⟩ := findR_some h
  exact ⟨d, by simpa using h1, h2⟩
theorem rst_row (h : RSt st xp ow L) {k : Nat} {d : RD} (hd : L[k]? = some d) : ∃ es, st.get xp = .ok (.cells RST [.gs ow 2 L.length]) ∧ st.get ow = .ok (.row L.length RDT 2 (flat es)) ∧ IsR L es := by
  obtain ⟨hr, v, hg, ⟨rfl, rfl⟩ | ⟨rfl, es, hw, hi⟩⟩ := h
  · simp at hd
  · exact ⟨es, hg, hw, hi⟩
theorem kept_okR (h : RSt st xp ow L) (hl : L.length ≤ 1000000) (hok : ∀ d ∈ L, d.vs.length ≤ 1000000) (nm : B) :
    (findR nm L 0 = none ∧ (orc vE).wide 24 [.mp xp 0, .str nm] st = some (.tup [.nils, .int .i64 5], st)) ∨
    ∃ k d v st', findR nm L 0 = some k ∧ L[k]? = some d ∧ d.nm = nm ∧ (orc vE).wide 24 [.mp xp 0, .str nm] st = some (.tup [v, .int .i64 0], st') ∧ Own st' 1 3 v (d.vs.map noR) ∧ WayR st st' v := by
  have cf := fun {β : Type} (K : Kv β) => call_findR h hl nm K
  unfold findRI at cf
  cases hf : findR nm L 0 with
  | none =>
    rw [hf] at cf
    refine .inl ⟨rfl, wide_of ((w24_eq _ _ _).trans ?_)⟩
    simp only [w24, asS_str, cf, asI_int, ifB_decide, show ((-1 : Int) < 0) by decide, if_true]
  | some k =>
    rw [hf] at cf
    obtain ⟨d, hd, hn⟩ := findR_at hf
    obtain ⟨es, hx, hw, hi⟩ := rst_row h hd
    have hdl := hok d (List.mem_of_getElem? hd)
    obtain ⟨v', st', e, ho, hW⟩ := kept_loopR hx hw hi hd hdl d.vs 0 [] .nils st rfl (wayR_nils st) (Own.nils (by rw [h.1]; exact Nat.zero_le _) _ _) (by simpa using hdl)
    have e : loopO (w24_L1 (.mp xp 0) (k : Int)) ([.nils, .int .i64 0], st) = some (0, [v'], st') := e
    refine .inr ⟨k, d, v', st', rfl, hd, hn, wide_of ((w24_eq _ _ _).trans ?_), ho, hW⟩
    simp only [w24, asS_str, cf, asI_int, ifB_decide, if_neg (show ¬ (k : Int) < 0 by omega), e, bindO_ok, unc_cons, un0_nil]
def atV (no : Int) : List (Int × B) → Option B
  | [] => none
  | v :: l => if v.1 = no then some v.2 else atV no l
theorem at_loopR {es : List AV} (hx : st.get xp = .ok (.cells RST [.gs ow 2 L.length])) (hw : st.get ow = .ok (.row L.length RDT 2 (flat es))) (hi : IsR L es) {k : Nat} {d : RD} (hd : L[k]? = some d) (hl : d.vs.length ≤ 1000000) (no : Int) : ∀ (m : List (Int × B)) (i : Nat), d.vs.drop i = m →
    loopO (w17_L1 (.mp xp 0) no (k : Int)) ([.str [], .int .i64 0, .int .i64 (i : Int)], st) = some (match atV no m with | none => (0, [.str [], .int .i64 0], st) | some t => (1, [.str t, .int .i64 0], st))
  | [], i, hdr => by
    have := List.drop_eq_nil_iff.1 hdr
    have q : ¬ (i : Int) < ((d.vs.map verR).length : Int) := by rw [List.length_map]; omega
    have hk : k < L.length := (List.getElem?_eq_some_iff.1 hd).1
    obtain ⟨y, hy, _, l1, _⟩ := rd_cell hw hi hd
    have ix := fun {β : Type} (K : AV → List Nat → Option β) => idxA_gs hw hk K
    refine loopO_inr ?_
    simp only [w17_L1, unc_cons, asS_str, asI_int, un0_nil, ifB_decide, if_pos (show (k : Int) ≥ 0 by omega), notNil_mp, chk_true, fldA_mp, Nat.add_zero, loadS_mp hx, List.drop_zero, takeO_one, bindO_ok, ix, fldA_gp, l1, hy.len, if_neg q, asB_bool]
    rfl
  | u :: m, i, hdr => by
    obtain ⟨hg, hdr2, hlt⟩ := drop_cons hdr
    have q : (i : Int) < ((d.vs.map verR).length : Int) := by rw [List.length_map]; omega
    have hk : k < L.length := (List.getElem?_eq_some_iff.1 hd).1
    obtain ⟨y, hy, _, l1, _⟩ := rd_cell hw hi hd
    have ix := fun {β : Type} (K : AV → List Nat → Option β) => idxA_gs hw hk K
    have iy : ∀ {β : Type} (K : AV → List Nat → Option β), idxA 2 y (i : Int) st K = K (.ip [.int .i64 u.1, .str u.2]) [] := fun K => hy.idx (show (d.vs.map verR)[i]? = some (verR u) by rw [List.getElem?_map, hg]; rfl) st K
    have hw1 : IntKind.wrap .i64 ((i : Int) + 1) = ((i + 1 : Nat) : Int) := wrapA1 (by omega)
    unfold atV
    by_cases hn : u.1 = no
    · rw [if_pos hn]
      refine loopO_inr ?_
      simp only [w17_L1, unc_cons, asS_str, asI_int, un0_nil, ifB_decide, if_pos (show (k : Int) ≥ 0 by omega), notNil_mp, chk_true, fldA_mp, Nat.add_zero, loadS_mp hx, List.drop_zero, takeO_one, bindO_ok, ix, fldA_gp, l1, hy.len, if_pos q, asB_bool, iy, fldA_ip, loadS_ip, ifB_beq, if_pos hn, List.drop_succ_cons]
    · rw [if_neg hn]
      refine (loopO_inl (s' := ([.str [], .int .i64 0, .int .i64 ((i + 1 : Nat) : Int)], st)) ?_).trans (at_loopR hx hw hi hd hl no m (i + 1) hdr2)
      simp only [w17_L1, unc_cons, asS_str, asI_int, un0_nil, ifB_decide, if_pos (show (k : Int) ≥ 0 by omega), notNil_mp, chk_true, fldA_mp, Nat.add_zero, loadS_mp hx, List.drop_zero, takeO_one, bindO_ok, ix, fldA_gp, l1, hy.len, if_pos q, asB_bool, iy, fldA_ip, loadS_ip, ifB_beq, if_neg hn, letV_eq, hw1]
def atR (L : List RD) (nm : B) (no : Int) : Option B := match findR nm L 0 with | none => none | some k => match L[k]? with | none => none | some d => atV no d.vs
def atA : Option B → AV
  | none => .tup [.str [], .int .i64 5]
  | some t => .tup [.str t, .int .i64 0]
theorem at_okR (h : RSt st xp ow L) (hl : L.length ≤ 1000000) (hok : ∀ d ∈ L, d.vs.length ≤ 1000000) (nm : B) (no : Int) : (orc vE).wide 17 [.mp xp 0, .str nm, .int .i64 no] st = some (atA (atR L nm no), st) := by
  have cf := fun {β : Type} (K : Kv β) => call_findR h hl nm K
  unfold findRI at cf
  unfold atR
  refine wide_of ((w17_eq _ _ _ _).trans ?_)
  cases hf : findR nm L 0 with
  | none =>
    rw [hf] at cf
    have e : loopO (w17_L1 (.mp xp 0) no (-1)) ([.str [], .int .i64 0, .int .i64 0], st) = some (0, [.str [], .int .i64 0], st) := by
      refine loopO_inr ?_
      simp only [w17_L1, unc_cons, asS_str, asI_int, un0_nil, ifB_decide, show ¬ ((-1 : Int) ≥ 0) by decide, if_false, bindO_ok, asB_bool, ifB_false]
    simp only [w17, asS_str, asI_int, cf, e, bindO_ok, unc_cons, un0_nil, sel2_zero, atA]
  | some k =>
    rw [hf] at cf
    obtain ⟨d, hd, hn⟩ := findR_at hf
    obtain ⟨es, hx, hw, hi⟩ := rst_row h hd
    have e := at_loopR hx hw hi hd (hok d (List.mem_of_getElem? hd)) no d.vs 0 rfl
    have e : loopO (w17_L1 (.mp xp 0) no (k : Int)) ([.str [], .int .i64 0, .int .i64 0], st) = _ := e
    simp only [hd]
    simp only [w17, asS_str, asI_int, cf, e, bindO_ok]
    cases atV no d.vs with
    | none => simp only [unc_cons, asS_str, asI_int, un0_nil, sel2_zero, atA]
    | some t => simp only [unc_cons, asS_str, asI_int, un0_nil, sel2_one, atA]
theorem ap_made {a : Nat} {o : VM.Obj} (h : a < st.h) : apart ⟨[a], .kept⟩ ⟨[], .made st.h o⟩ = true := by
  show (![a].contains st.h) = true
  have : a ≠ st.h := by omega
  simp [this.symm]
theorem ap_made0 {o : VM.Obj} : apart ⟨[], .kept⟩ ⟨[], .made st.h o⟩ = true := rfl
theorem slotK {β : Type} {Q : β → Prop} (ro : st.ro ≤ st.h) {O : Orc} {ty : TypeId} {old cs : List AV} {z : Nat} {v : AV} {K : Kv β} (hz : old.length = z) (hc : cs.length = z)
    (g : ∀ s fx, Keeps st s (fun _ => False) → s.get st.h = .ok (.cells ty cs) → s.h = st.h + 1 → Goes (K VM.undef s fx) Q) : Goes (letSt (st.add (.cells ty old)) fun s => storeS O z (.mp st.h 0) v cs s K) Q := by
  have hg : (st.add (.cells ty old)).get st.h = .ok (.cells ty old) := St.get_add_new
  have e : storeS O z (.mp st.h 0) v cs (st.add (.cells ty old)) K = K VM.undef ((st.add (.cells ty old)).put st.h (.cells ty cs)) ⟨[st.h], .wrote st.h (.cells ty cs)⟩ := by
    rw [storeS_at hg hc (by omega) (show (st.add (.cells ty old)).ro ≤ st.h from ro), splice_all (by omega)]
  exact Goes.step e (g _ _ ((Keeps.add st (.cells ty old) _).fresh (Keeps.put rfl) (Nat.le_refl _)) (St.get_put_same (St.get_ok.1 hg).1) rfl)
def lastR (L : List RD) (nm : B) : Option (Int × B) := match findR nm L 0 with | none => none | some k => match L[k]? with | none => none | some d => d.vs.getLast?
def lastA : Option (Int × B) → AV
  | none => .tup [.int .i64 0, .str [], .int .i64 5]
  | some v => .tup [.int .i64 v.1, .str v.2, .int .i64 0]
theorem last_okR (h : RSt st xp ow L) (hl : L.length ≤ 1000000) (hok : ∀ d ∈ L, d.vs.length ≤ 1000000 ∧ d.vs ≠ []) (nm : B) : Goes ((orc vE).wide 22 [.mp xp 0, .str nm] st) (fun r => r.1 = lastA (lastR L nm) ∧ Keeps st r.2 (fun _ => False)) := by
  have cf := fun {β : Type} (K : Kv β) => call_findR h hl nm K
  unfold findRI at cf
  unfold lastR
  refine Goes.wide (Goes.step (w22_eq _ _ _) ?_)
  cases hf : findR nm L 0 with
  | none =>
    rw [hf] at cf
    simp only [w22, asS_str, cf, asI_int, ifB_decide, show ((-1 : Int) < 0) by decide, if_true]
    exact Goes.some ⟨rfl, Keeps.refl _ _⟩
  | some k =>
    rw [hf] at cf
    obtain ⟨d, hd, hn⟩ := findR_at hf
    obtain ⟨es, hx, hw, hi⟩ := rst_row h hd
    obtain ⟨hdl, hne⟩ := hok d (List.mem_of_getElem? hd)
    have hk : k < L.length := (List.getElem?_eq_some_iff.1 hd).1
    obtain ⟨y, hy, _, l1, _⟩ := rd_cell hw hi hd
    have ix := fun {β : Type} (K : AV → List Nat → Option β) => idxA_gs hw hk K
    have hpos := List.length_pos_iff.2 hne
    obtain ⟨u, hu⟩ : ∃ u, d.vs[d.vs.length - 1]? = some u := ⟨_, List.getElem?_eq_getElem (by omega)⟩
    have hgl : d.vs.getLast? = some u := by rw [List.getLast?_eq_getElem?]; exact hu
    have iy : ∀ {β : Type} (K : AV → List Nat → Option β), idxA 2 y ((d.vs.length - 1 : Nat) : Int) st K = K (.ip [.int .i64 u.1, .str u.2]) [] := fun K => hy.idx (show (d.vs.map verR)[d.vs.length - 1]? = some (verR u) by rw [List.getElem?_map, hu]; rfl) st K
    have hxh := (St.get_ok.1 hx).1
    have hwh := (St.get_ok.1 hw).1
    have hw1 : IntKind.wrap .i64 (((d.vs.map verR).length : Int) - 1) = ((d.vs.length - 1 : Nat) : Int) := by rw [List.length_map, wrap_i64 (by omega) (by omega)]; omega
    have ro := h.1
    simp only [hd, hgl]
    simp only [w22, asS_str, cf, asI_int, ifB_decide, if_neg (show ¬ (k : Int) < 0 by omega), notNil_mp, chk_true, fldA_mp, Nat.add_zero, loadS_mp hx, List.drop_zero, takeO_one, bindO_ok, ix, fldA_gp, l1, hy.len, letV_eq, hw1, iy, loadS_ip, tk2, unA_agg, unc_cons, un0_nil, ap_made hxh, ap_made hwh, ap_made0, Bool.and_self]
    refine slotK (by rw [ro]; exact Nat.zero_le _) rfl rfl fun s2 fx k2 g2 _ => ?_
    simp only [loadS_mp g2, List.drop_zero, List.drop_succ_cons, takeO_one, bindO_ok, asI_int, asS_str]
    exact Goes.some ⟨rfl, k2⟩
end
theorem verFt (l : List (Int × B)) {β : Type} (K : List AV → Option β) : fitTs true (l.map verR) K = K (l.map verR) :=
  fitTs_of (fun v hv K => by
    obtain ⟨p, _, rfl⟩ := List.mem_map.1 hv
    rfl) K
theorem verS (l : List (Int × B)) : sizesOk 2 (l.map verR) = true := sizesOk_of fun v hv => by
  obtain ⟨p, _, rfl⟩ := List.mem_map.1 hv
  rfl
theorem own_os {st : St} {z : Nat} {e : TypeId} {v : AV} {es : List AV} (h : Own st z e v es) : OS z v es := by
  rcases h with ⟨_, hl, ⟨rfl | rfl, rfl⟩ | rfl | ⟨k, rfl, _, _⟩⟩
  · exact .inl IsSl.nils
  · exact .inl IsSl.emp
  · exact .inl (IsSl.shut hl)
  · exact .inr ⟨k, rfl, hl⟩
theorem os_from {z k : Nat} {x : AV} {es : List AV} (h : OS z x es) (hk : k ≤ es.length) (h1 : 1 ≤ k) : ∃ x', IsSl z x' (es.drop k) ∧ ∀ {β : Type} (K : AV → Option β), sliceS z x (some (k : Int)) none none K = K x' := by
  have h2 : hiO (some (k : Int)) es.length 0 = some k := hiO_nat hk
  have h3 : hiO none es.length es.length = some es.length := hiO_none
  rcases h with h | ⟨j, rfl, hl⟩
  · obtain ⟨x', hx, e⟩ := h.cut (lo := some (k : Int)) (hi := none) (l := k) (m := es.length) h2 h3
    rw [List.take_length] at hx
    exact ⟨x', hx, e⟩
  · refine ⟨.sl z (es.drop k) .wide, IsSl.wide (by rw [List.length_drop]; omega), fun K => ?_⟩
    have hz : z.beq z = true := Nat.beq_refl z
    have hb : es.length.beq es.length = true := Nat.beq_refl _
    have h0 : k.beq 0 = false := by cases k with
      | zero => omega
      | succ n => rfl
    simp only [sliceS, sliceO, hz, h2, h3, hb, h0, bindO_ok]
theorem os_fit {x : AV} {es : List AV} (nm : B) (h : OS 2 x es) : (∃ u, fit (.agg [.str nm, x]) = .ok u) ∧ VM.one x = true := by
  rcases h with ⟨_, ⟨rfl | rfl, _⟩ | rfl | rfl⟩ | ⟨k, rfl, _⟩
  all_goals exact ⟨⟨_, rfl⟩, rfl⟩
def kept8 (l : List (Int × B)) : List (Int × B) := l.drop (l.length - 8)
def changeR (L : List RD) (nm : B) (no : Int) (cs : List Chg) : Except Nat (Nat × RD × B) :=
  match findR nm L 0 with
  | none => .error 5
  | some k => match L[k]? with
    | none => .error 5
    | some d => if okVer no = false then .error 1 else match d.vs.getLast? with
      | none => .error 1
      | some u => if no ≤ u.1 then .error 67 else match doneRL u.2 cs with
        | .error e => .error e
        | .ok t => .ok (k, d, t)
section
variable {st st' : St} {xp ow : Nat} {L : List RD}
theorem IsR.set : ∀ {L : List RD} {es : List AV}, IsR L es → ∀ {i : Nat} {d : RD} {y : AV}, OS 2 y (d.vs.map verR) → IsR (L.set i d) (es.set i (.agg [.str d.nm, y]))
  | [], _, h, _, _, _, _ => by rw [show _ = [] from h]; rfl
  | e :: l, es, h, 0, d, y, hy => by
    obtain ⟨z, rest, rfl, hz, h⟩ := h
    exact ⟨y, rest, rfl, hy, h⟩
  | e :: l, es, h, i + 1, d, y, hy => by
    obtain ⟨z, rest, rfl, hz, h⟩ := h
    exact ⟨z, _, rfl, hz, IsR.set h hy⟩
theorem doneRL_ne : ∀ {l : List Chg} {s : B} {e : Nat}, doneRL s l = .error e → e ≠ 0
  | [], _, _, h => by cases h
  | c :: l, s, e, h => by
    unfold doneRL at h
    cases hd : doneR s c with
    | error e' =>
      rw [hd] at h
      cases h
      unfold doneR at hd
      repeat' split at hd
      all_goals first | (cases hd; done) | (cases hd; decide)
    | ok t => rw [hd] at h; exact doneRL_ne h
def DocOk (d : RD) : Prop := d.vs ≠ [] ∧ d.vs.length ≤ 8 ∧ ∀ v ∈ d.vs, validS v.2 = true ∧ v.2.length ≤ 65536
theorem change_okR (h : RSt st xp ow L) (hne : xp ≠ ow) (hl : L.length ≤ 1000000) (hok : ∀ d ∈ L, DocOk d) (nm : B) (no : Int) {cs : List Chg} {x : AV} (hx : IsSl 6 x (cs.map chgR)) (hc : ∀ c ∈ cs, c.text.length ≤ 100000) (hcl : cs.length ≤ 1000000) :
    Goes ((orc vE).wide 14 [.mp xp 0, .str nm, .int .i64 no, x] st) (fun r => match changeR L nm no cs with
      | .error e => r.1 = .int .i64 (e : Int) ∧ Keeps st r.2 (fun _ => False)
      | .ok (k, d, t) => r.1 = .int .i64 0 ∧ L[k]? = some d ∧ d.nm = nm ∧ RSt r.2 xp ow (L.set k ⟨nm, kept8 (d.vs ++ [(no, t)])⟩) ∧ Keeps st r.2 (· = ow)) := by
  have cf := fun {β : Type} (K : Kv β) => call_findR h hl nm K
  have cv := fun {β : Type} (st : St) (K : Kv β) => callS_bare (f := 35) st K rfl rfl rfl (version_ok no)
  unfold findRI at cf
  unfold changeR
  refine Goes.wide (Goes.step (w14_eq _ _ _ _ _) ?_)
  cases hf : findR nm L 0 with
  | none =>
    rw [hf] at cf
    simp only [w14, asS_str, asI_int, cf, ifB_decide, show ((-1 : Int) < 0) by decide, if_true]
    exact Goes.some ⟨rfl, Keeps.refl _ _⟩
  | some k =>
    rw [hf] at cf
    obtain ⟨d, hd, hn⟩ := findR_at hf
    simp only [hd]
    cases hb : okVer no with
    | false =>
      have hb' : decide (0 ≤ no ∧ no ≤ 2147483647) = false := hb
      simp only [w14, asS_str, asI_int, cf, ifB_decide, if_neg (show ¬ (k : Int) < 0 by omega), cv, hb', asB_bool, Bool.not_false, ifB_true, if_true]
      exact Goes.some ⟨rfl, Keeps.refl _ _⟩
    | true =>
      have hb' : decide (0 ≤ no ∧ no ≤ 2147483647) = true := hb
      obtain ⟨es, hxp, hw, hi⟩ := rst_row h hd
      obtain ⟨hdn, hd8, hdv⟩ := hok d (List.mem_of_getElem? hd)
      have hk : k < L.length := (List.getElem?_eq_some_iff.1 hd).1
      obtain ⟨y, hy, _, _, l2⟩ := rd_cell hw hi hd
      have ix := fun {β : Type} (K : AV → List Nat → Option β) => idxA_gs hw hk K
      have hpos := List.length_pos_iff.2 hdn
      obtain ⟨u, hu⟩ : ∃ u, d.vs[d.vs.length - 1]? = some u := ⟨_, List.getElem?_eq_getElem (by omega)⟩
      have hgl : d.vs.getLast? = some u := by rw [List.getLast?_eq_getElem?]; exact hu
      have iy : ∀ (st : St) {β : Type} (K : AV → List Nat → Option β), idxA 2 y ((d.vs.length - 1 : Nat) : Int) st K = K (.ip [.int .i64 u.1, .str u.2]) [] := fun st {β} K => hy.idx (show (d.vs.map verR)[d.vs.length - 1]? = some (verR u) by rw [List.getElem?_map, hu]; rfl) st K
      have hw1 : IntKind.wrap .i64 (((d.vs.map verR).length : Int) - 1) = ((d.vs.length - 1 : Nat) : Int) := by rw [List.length_map, wrap_i64 (by omega) (by omega)]; omega
      have ro := h.1
      have oy := (os_fit d.nm hy).2
      have uv := hdv u (List.mem_of_getElem? hu)
      simp only [hgl, Bool.true_eq_false, if_false]
      simp only [w14, asS_str, asI_int, cf, ifB_decide, if_neg (show ¬ (k : Int) < 0 by omega), cv, hb', asB_bool, Bool.not_true, ifB_false, notNil_mp, chk_true, fldA_mp, Nat.add_zero, loadS_mp hxp, List.drop_zero, takeO_one, bindO_ok, ix, l2, unA_agg, unc_cons, un0_nil, asOne_of oy]
      refine slotK (by rw [ro]; exact Nat.zero_le _) rfl rfl fun s2 fx2 k2 g2 h2 => ?_
      simp only [loadS_mp g2, List.drop_succ_cons, List.drop_zero, takeO_one, bindO_ok, hy.len, letV_eq, hw1, iy, loadS_ip, tk2, unA_agg, unc_cons, asI_int, asS_str, un0_nil]
      refine slotK (by rw [k2.ro, ro]; exact Nat.zero_le _) rfl rfl fun s3 fx3 k3 g3 h3 => ?_
      have g23 := k3.old _ _ (fun f => f) g2
      simp only [loadS_mp g3, List.drop_succ_cons, List.drop_zero, takeO_one, bindO_ok, asI_int, asS_str]
      by_cases hv : no ≤ u.1
      · simp only [if_pos hv]
        exact Goes.some ⟨rfl, k2.trans k3⟩
      simp only [if_neg hv]
      have cd := fun {β : Type} (st : St) (K : Kv β) => callS_bare (f := 37) st K rfl (by rw [List.map_cons, List.map_cons, List.map_nil, hx.strip]; rfl) (by rw [bares_cons, bares_cons, hx.bare]; rfl) (done_okR uv.1 uv.2 hx hc hcl)
      simp only [cd]
      cases hdone : doneRL u.2 cs with
      | error e =>
        have he := doneRL_ne hdone
        simp only [doneA, unT_tup, nthS_zero, nthS_one, asS_str, asI_int, ifB_bne, if_neg (show ¬ (e : Int) = 0 by omega)]
        exact Goes.some ⟨rfl, k2.trans k3⟩
      | ok t =>
        have r3 : s3.ro = 0 := by rw [k3.ro, k2.ro, ro]
        simp only [doneA, unT_tup, nthS_zero, nthS_one, asS_str, asI_int, ifB_bne, if_true, loadS_mp g23, List.drop_succ_cons, List.drop_zero, takeO_one, bindO_ok, hy.elems, verFt, verS, chk_true]
        obtain ⟨v4, s4, x4, ho4, k4, j4, _, e4⟩ := own_fx (b := 24) (d.vs.map verR) (Own.shut (st := s3) (z := 2) (es := []) (by rw [r3]; exact Nat.zero_le _) 79 (Nat.zero_le _)) fun _ => room_of (by rw [List.length_map, List.length_nil]; omega) (by omega) (by omega)
        refine Goes.step (e4 _) ?_
        have k4' : Keeps s3 s4 (fun _ => False) := k4.weak fun j hj => by obtain ⟨_, _, h⟩ := hj; cases h
        obtain ⟨v5, s5, x5, ho5, k5, j5, _, e5⟩ := own_fx (b := 24) [.agg [.int .i64 no, .str t]] ho4 fun _ => room_of (by simp only [List.nil_append, List.length_map, List.length_cons, List.length_nil]; omega) (by omega) (by omega)
        refine Goes.step (e5 _) ?_
        have k5' : Keeps s3 s5 (fun _ => False) := k4'.join k5 fun j hj => by
          rcases j4 j hj with h | h
          · obtain ⟨_, _, h⟩ := h; cases h
          · exact .inr h
        have k05 : Keeps st s5 (fun _ => False) := (k2.trans k3).trans k5'
        have hes : [] ++ d.vs.map verR ++ [AV.agg [.int .i64 no, .str t]] = (d.vs ++ [(no, t)]).map verR := by rw [List.nil_append, List.map_append]; rfl
        rw [hes] at ho5
        have hln : (((d.vs ++ [(no, t)]).map verR).length : Int) = ((d.vs.length + 1 : Nat) : Int) := by rw [List.length_map, List.length_append]; rfl
        simp only [own_len ho5, hln]
        refine Goes.bind (R := fun c => ∃ x', c = ([x'], s5) ∧ OS 2 x' ((kept8 (d.vs ++ [(no, t)])).map verR)) ?_ ?_
        · unfold kept8
          rw [List.length_append, List.length_singleton]
          by_cases h8 : d.vs.length + 1 > 8
          · have hw8 : IntKind.wrap .i64 (((d.vs.length + 1 : Nat) : Int) - 8) = ((d.vs.length + 1 - 8 : Nat) : Int) := by rw [wrap_i64 (by omega) (by omega)]; omega
            obtain ⟨x', hx', ex⟩ := os_from (k := d.vs.length + 1 - 8) (own_os ho5) (by rw [List.length_map, List.length_append, List.length_singleton]; omega) (by omega)
            simp only [ifB_decide, if_pos (show ((d.vs.length + 1 : Nat) : Int) > 8 by omega), letV_eq, hw8, ex]
            exact Goes.some ⟨x', rfl, .inl (by rw [List.map_drop]; exact hx')⟩
          · simp only [ifB_decide, if_neg (show ¬ ((d.vs.length + 1 : Nat) : Int) > 8 by omega)]
            exact Goes.some ⟨v5, rfl, by rw [show d.vs.length + 1 - 8 = 0 by omega, List.drop_zero]; exact own_os ho5⟩
        rintro c ⟨x', rfl, hx'⟩
        obtain ⟨⟨fu, hfit⟩, h1x⟩ := os_fit nm hx'
        have hxp5 := k05.old _ _ (fun f => f) hxp
        have hw5 := k05.old _ _ (fun f => f) hw
        have ix5 := fun {β : Type} (K : AV → List Nat → Option β) => idxA_gs hw5 hk K
        have r5 : s5.ro = 0 := by rw [k05.ro, ro]
        simp only [unc_cons, un0_nil, notNil_mp, chk_true, fldA_mp, Nat.add_zero, loadS_mp hxp5, List.drop_zero, takeO_one, bindO_ok, asOne_of h1x, ix5]
        obtain ⟨y2, he2, _⟩ := hi.at hd
        have hfl : (flat es).length = L.length * 2 := by
          have : ∀ {l : List AV}, (∀ v ∈ l, v.cells.length = 2) → (flat l).length = l.length * 2 := by
            intro l
            induction l with
            | nil => intro _; rfl
            | cons v l ih =>
              intro hv
              show (v.cells ++ flat l).length = _
              rw [List.length_append, hv v List.mem_cons_self, ih fun w hw => hv w (List.mem_cons_of_mem _ hw), List.length_cons]
              omega
          rw [this hi.cells, hi.len]
        have hsp := flat_splice (z := 2) hi.cells (k := k) (off := 0) (new := [.str nm, x']) he2 (Nat.le_refl _)
        have hsp2 : splice [AV.str d.nm, y2] 0 [.str nm, x'] = [.str nm, x'] := rfl
        rw [hsp2, Nat.add_zero] at hsp
        have kp : Keeps s5 (s5.put ow (.row L.length RDT 2 (flat (es.set k (.agg [.str nm, x']))))) (· = ow) := Keeps.put rfl
        have e6 := fun (K : Kv (AV × St)) => storeS_gp (O := orc vE) (off := k * 2) (v := .agg [.str nm, x']) (y := 2) (cs := [.str nm, x']) hw5 (by rw [r5]; exact Nat.zero_le _) rfl (show (true && (VM.one x' && true)) = true by rw [h1x]; rfl) hfit (by rw [hfl]; omega) K
        refine Goes.step (e6 _) ?_
        have hc2 : AV.cells (.agg [.str nm, x']) = [.str nm, x'] := rfl
        rw [hc2, hsp]
        refine Goes.some ⟨rfl, hd, hn, ⟨r5, .gs ow 2 L.length, kp.old _ _ hne hxp5, .inr ⟨by rw [List.length_set], es.set k (.agg [.str nm, x']), ?_, hi.set (d := ⟨nm, kept8 (d.vs ++ [(no, t)])⟩) hx'⟩⟩, (k05.weak fun _ f => f.elim).trans kp⟩
        rw [List.length_set]
        exact St.get_put_same (St.get_ok.1 hw5).1
end
end Go.Proofs.YtkknkhniadiapaaDoor.Vm
namespace Go.Proofs.YtkknkhniadiapaaDoor.Vm
open Go Go.VM Go.Proofs Go.Store Go.Lib Go.Lex T
def lkV (v : Int × T) : Int × B := (v.1, v.2.text)
def lk (d : Dc) : RD := ⟨d.nm, d.kept.map lkV⟩
theorem find_lk (nm : B) : ∀ (ds : List Dc) (i : Nat), findR nm (ds.map lk) i = findN nm ds i
  | [], _ => rfl
  | d :: l, i => by
    show (if d.nm = nm then some i else findR nm (l.map lk) (i + 1)) = _
    rw [find_lk nm l (i + 1)]
    rfl
theorem okVer_bad (n : Int) : okVer n = !badN n := by
  unfold okVer badN
  by_cases h1 : n < 0
  · rw [decide_eq_true h1, decide_eq_false (by omega)]; rfl
  · by_cases h2 : n > 2147483647
    · rw [decide_eq_true h2, decide_eq_false h1, decide_eq_false (by omega)]; rfl
    · rw [decide_eq_false h2, decide_eq_false h1, decide_eq_true (by omega)]; rfl
theorem open_lk (ds : List Dc) (nm : B) (no : Int) (tx : B) : openR (ds.map lk) nm no tx = openE ds nm no tx := by
  unfold openR openE
  rw [find_lk, List.length_map, okVer_bad]
  cases findN nm ds 0 with
  | some k => rfl
  | none => cases badN no <;> rfl
def VaOk (ds : List Dc) : Prop := ∀ d ∈ ds, ∀ v ∈ d.vs, validS v.2.text = true
theorem kept_sub {d : Dc} {v : Int × T} (h : v ∈ d.kept) : v ∈ d.vs := List.mem_of_mem_drop h
theorem docOk_lk {d : Dc} (ok : DcOk d) (va : ∀ v ∈ d.vs, validS v.2.text = true) : DocOk (lk d) := by
  have hp := kept_pos ok
  have h8 := kept_len d
  refine ⟨fun h => ?_, by show (d.kept.map lkV).length ≤ 8; rw [List.length_map]; exact h8, fun v hv => ?_⟩
  · have : (d.kept.map lkV).length = 0 := by rw [show d.kept.map lkV = [] from h]; rfl
    rw [List.length_map] at this
    omega
  · obtain ⟨u, hu, rfl⟩ := List.mem_map.1 hv
    refine ⟨va u (kept_sub hu), ?_⟩
    show u.2.text.length ≤ 65536
    have := (ok.wf u (kept_sub hu)).2
    rw [size_text]; exact this
theorem docs_lk {ds : List Dc} (ok : DsOk ds) (va : VaOk ds) : ∀ d ∈ ds.map lk, DocOk d := fun d hd => by
  obtain ⟨u, hu, rfl⟩ := List.mem_map.1 hd
  exact docOk_lk (ok.ok u hu) (va u hu)
theorem last_kept {d : Dc} (ok : DcOk d) {v : Int × T} (h : d.vs.getLast? = some v) : (lk d).vs.getLast? = some (lkV v) := by
  show (d.kept.map lkV).getLast? = _
  have hl : d.vs.length - 8 < d.vs.length := by have := List.length_pos_iff.2 ok.some; omega
  have : d.kept.getLast? = some v := by
    unfold Dc.kept
    rw [List.getLast?_drop, if_neg (by omega)]; exact h
  rw [List.getLast?_map, this]; rfl
theorem doneRL_valid : ∀ {l : List Chg} {s t : B}, validS s = true → doneRL s l = .ok t → validS t = true
  | [], _, _, hv, h => by cases h; exact hv
  | c :: l, s, t, hv, h => by
    unfold doneRL at h
    cases hd : doneR s c with
    | error e => rw [hd] at h; cases h
    | ok u => rw [hd] at h; exact doneRL_valid (doneR_valid hd) h
theorem change_lk {ds : List Dc} (ok : DsOk ds) (va : VaOk ds) (nm : B) (no : Int) (cs : List Chg) : match changeE ds nm no cs with
    | .error e => changeR (ds.map lk) nm no cs = .error e
    | .ok (i, u) => ∃ d v, ds[i]? = some d ∧ d.nm = nm ∧ d.vs.getLast? = some v ∧ v.1 < no ∧ badN no = false ∧ findN nm ds 0 = some i ∧ validS u = true ∧ changeR (ds.map lk) nm no cs = .ok (i, lk d, u) := by
  unfold changeE changeR
  rw [find_lk]
  cases hf : findN nm ds 0 with
  | none => rfl
  | some i =>
    obtain ⟨d, hd, hn⟩ := find_doc hf
    have hd2 : (ds.map lk)[i]? = some (lk d) := by rw [List.getElem?_map, hd]; rfl
    obtain ⟨v, hv⟩ := last_of (ok.ok d (List.mem_of_getElem? hd))
    have hv2 := last_kept (ok.ok d (List.mem_of_getElem? hd)) hv
    have vv := va d (List.mem_of_getElem? hd) v (List.mem_of_getLast? hv)
    simp only [hd, hd2, hv, hv2, okVer_bad, Option.bind_some]
    cases hb : badN no with
    | true => rfl
    | false =>
      simp only [Bool.false_eq_true, Bool.not_false, if_false, Bool.true_eq_false]
      by_cases h : no ≤ v.1
      · rw [if_pos h, if_pos (show no ≤ (lkV v).1 from h)]
      · rw [if_neg h, if_neg (show ¬ no ≤ (lkV v).1 from h)]
        have e : doneRL (lkV v).2 cs = doneL v.2.text cs := doneRL_eq vv
        rw [e]
        cases hdn : doneL v.2.text cs with
        | error e => rfl
        | ok u => exact ⟨d, v, hd, hn, hv, by omega, by first | exact hb | trivial, rfl, doneRL_valid vv (e.trans hdn), rfl⟩
theorem kept_app {α β : Type} (f : α → β) (l : List α) (v : α) : (fun x : List β => x.drop (x.length - 8)) ((l.drop (l.length - 8)).map f ++ [f v]) = ((l ++ [v]).drop ((l ++ [v]).length - 8)).map f := by
  show ((l.drop (l.length - 8)).map f ++ [f v]).drop (((l.drop (l.length - 8)).map f ++ [f v]).length - 8) = _
  simp only [List.length_append, List.length_map, List.length_drop, List.length_singleton, List.map_drop, List.map_append, List.map_cons, List.map_nil]
  by_cases h : l.length < 8
  · rw [show l.length - 8 = 0 by omega, show l.length - 0 + 1 - 8 = 0 by omega, show l.length + 1 - 8 = 0 by omega]
    simp
  · rw [show l.length - (l.length - 8) + 1 - 8 = 1 by omega, show l.length + 1 - 8 = l.length - 8 + 1 by omega, ← List.drop_drop, List.drop_append_of_le_length (by simp; omega), List.drop_append_of_le_length (by simp), List.drop_append_of_le_length (by simp; omega)]
theorem set_lk {ds : List Dc} {i : Nat} {d : Dc} {nm u : B} (hn : d.nm = nm) {no : Int} {t : T} (ht : t.text = u) : (ds.map lk).set i ⟨nm, kept8 ((lk d).vs ++ [(no, u)])⟩ = (ds.set i ⟨d.nm, d.vs ++ [(no, t)]⟩).map lk := by
  rw [List.map_set]
  congr 1
  show RD.mk nm _ = RD.mk d.nm _
  rw [hn]
  congr 1
  subst ht
  exact kept_app lkV d.vs (no, t)
theorem va_app {ds : List Dc} (va : VaOk ds) {nm : B} {no : Int} {t : T} (h : validS t.text = true) : VaOk (ds ++ [⟨nm, [(no, t)]⟩]) := fun d hd v hv => by
  rcases List.mem_append.1 hd with hd | hd
  · exact va d hd v hv
  · rw [List.mem_singleton.1 hd] at hv
    have hv : v ∈ [(no, t)] := hv
    rw [List.mem_singleton.1 hv]; exact h
theorem va_set {ds : List Dc} (va : VaOk ds) {i : Nat} {d : Dc} (hd : d ∈ ds) {no : Int} {t : T} (h : validS t.text = true) : VaOk (ds.set i ⟨d.nm, d.vs ++ [(no, t)]⟩) := fun e he v hv => by
  rcases List.mem_or_eq_of_mem_set he with he | rfl
  · exact va e he v hv
  · have hv : v ∈ d.vs ++ [(no, t)] := hv
    rcases List.mem_append.1 hv with hv | hv
    · exact va d hd v hv
    · rw [List.mem_singleton.1 hv]; exact h
theorem va_erase {ds : List Dc} (va : VaOk ds) (i : Nat) : VaOk (ds.eraseIdx i) := fun d hd => va d (List.mem_of_mem_eraseIdx hd)
theorem last_lk {ds : List Dc} (ok : DsOk ds) (nm : B) : lastA (lastR (ds.map lk) nm) = .tup [.int .i64 (lastT ds nm).1, .str (lastT ds nm).2.1, .int .i64 (lastT ds nm).2.2] := by
  unfold lastR lastT
  rw [find_lk]
  cases hf : findN nm ds 0 with
  | none => rfl
  | some i =>
    obtain ⟨d, hd, hn⟩ := find_doc hf
    have hd2 : (ds.map lk)[i]? = some (lk d) := by rw [List.getElem?_map, hd]; rfl
    obtain ⟨v, hv⟩ := last_of (ok.ok d (List.mem_of_getElem? hd))
    simp only [hd, hd2, hv, last_kept (ok.ok d (List.mem_of_getElem? hd)) hv, Option.bind_some]
    rfl
theorem atV_lk (no : Int) : ∀ l : List (Int × T), atV no (l.map lkV) = (verF no l).map T.text
  | [] => rfl
  | v :: l => by
    show (if v.1 = no then some v.2.text else atV no (l.map lkV)) = (if v.1 = no then some v.2 else verF no l).map T.text
    rw [atV_lk no l]
    split <;> rfl
theorem at_lk (ds : List Dc) (nm : B) (no : Int) : atR (ds.map lk) nm no = atT ds nm no := by
  unfold atR atT docN'
  rw [find_lk]
  cases hf : findN nm ds 0 with
  | none => rfl
  | some i =>
    obtain ⟨d, hd, hn⟩ := find_doc hf
    have hd2 : (ds.map lk)[i]? = some (lk d) := by rw [List.getElem?_map, hd]; rfl
    simp only [hd, hd2, Option.bind_some]
    exact atV_lk no d.kept
section
variable {st st' : St} {sp ow xp : Nat} {ds : List Dc} {L : List RD}
theorem IsR.erase : ∀ {L : List RD} {es : List AV}, IsR L es → ∀ i : Nat, IsR (L.eraseIdx i) (es.eraseIdx i)
  | [], _, h, i => by rw [show _ = [] from h]; rfl
  | d :: l, es, h, 0 => by
    obtain ⟨y, rest, rfl, hy, h⟩ := h
    exact h
  | d :: l, es, h, i + 1 => by
    obtain ⟨y, rest, rfl, hy, h⟩ := h
    exact ⟨y, _, rfl, hy, IsR.erase h i⟩
theorem nms_isR : ∀ {L : List RD} {es : List AV}, IsR L es → nmsC (flat es) = some (L.map RD.nm)
  | [], _, h => by rw [show _ = [] from h]; rfl
  | d :: l, es, h => by
    obtain ⟨y, rest, rfl, hy, h⟩ := h
    show nmsC (.str d.nm :: y :: flat rest) = _
    unfold nmsC
    rw [nms_isR h]
    rfl
theorem findO_R (nm : B) : ∀ (L : List RD) (i : Nat), findO nm (L.map RD.nm) i = findR nm L i
  | [], _ => rfl
  | d :: l, i => by
    show (if d.nm = nm then some i else findO nm (l.map RD.nm) (i + 1)) = _
    rw [findO_R nm l (i + 1)]
    rfl
theorem close_okR (h : RSt st xp ow L) (hl : L.length ≤ 1000000) (nm : B) : match findR nm L 0 with
    | none => ∀ {β : Type} (K : Kv β), callS (orc vE) 15 [.mp xp 0, .str nm] st K = K (.int .i64 5) st ⟨[], .all st st⟩
    | some i => ∃ st', RSt st' xp st.h (L.eraseIdx i) ∧ Keeps st st' (· = xp) ∧ ∀ {β : Type} (K : Kv β), callS (orc vE) 15 [.mp xp 0, .str nm] st K = K (.int .i64 0) st' ⟨[], .all st st'⟩ := by
  obtain ⟨hr, v, hg, hv⟩ := id h
  have wr : vE.wrule 15 = some (closeR RDT) := rfl
  rcases hv with ⟨rfl, rfl⟩ | ⟨rfl, es, hw, hi⟩
  · intro β K
    refine callS_wide K rfl (bares_mpR _ _ _ _) (wrule_of rfl wr ?_)
    simp only [closeR, hg]
    rfl
  · have hc : ((L.length.beq L.length && (Nat.beq RDT RDT && (Nat.beq 2 2 && Nat.beq 2 2))) && (L.length.ble 1000000 && st.ro.ble xp)) = true := by
      rw [Nat.beq_refl, Nat.ble_eq_true_of_le hl, Nat.ble_eq_true_of_le (show st.ro ≤ xp by rw [hr]; exact Nat.zero_le _)]; rfl
    cases hf : findR nm L 0 with
    | none =>
      intro β K
      refine callS_wide K rfl (bares_mpR _ _ _ _) (wrule_of rfl wr ?_)
      simp only [closeR, hg, hw, ok_bind, hc, nms_isR hi, findO_R, hf]
      rfl
    | some i =>
      obtain ⟨d, hd, _⟩ := findR_at hf
      have hlt : i < L.length := (List.getElem?_eq_some_iff.1 hd).1
      have hxh := (St.get_ok.1 hg).1
      have hfe : (flat es).take (i * 2) ++ (flat es).drop ((i + 1) * 2) = flat (es.eraseIdx i) := (flat_erase hi.cells (by rw [hi.len]; exact hlt)).symm
      have hle : (L.eraseIdx i).length = L.length - 1 := by rw [List.length_eraseIdx, if_pos hlt]
      have kp : Keeps (st.new (.row (L.length - 1) RDT 2 (flat (es.eraseIdx i)))).2 ((st.new (.row (L.length - 1) RDT 2 (flat (es.eraseIdx i)))).2.put xp (.cells RST [.gs st.h 2 (L.length - 1)])) (· = xp) := Keeps.put rfl
      have ka : Keeps st (st.new (.row (L.length - 1) RDT 2 (flat (es.eraseIdx i)))).2 (fun _ => False) := Keeps.add st _ _
      refine ⟨(st.new (.row (L.length - 1) RDT 2 (flat (es.eraseIdx i)))).2.put xp (.cells RST [.gs st.h 2 (L.length - 1)]), ?_, (ka.weak fun _ f => f.elim).trans kp, fun K => callS_wide K rfl (bares_mpR _ _ _ _) (wrule_of rfl wr ?_)⟩
      · refine ⟨hr, _, St.get_put_same (by show xp < st.h + 1; omega), .inr ⟨by rw [hle], es.eraseIdx i, ?_, hi.erase i⟩⟩
        rw [St.get_put_ne (by omega), hle]
        exact St.get_new_ok.2 (.inl ⟨rfl, rfl⟩)
      · simp only [closeR, hg, hw, ok_bind, hc, nms_isR hi, findO_R, hf, hfe]
        rfl
theorem copy_okS (h : Sto st sp ow ds) (hl : ds.length ≤ 1000000) : ∃ st', Sto st' (st.h + 1) st.h ds ∧ Keeps st st' (fun _ => False) ∧ st'.h = st.h + 2 ∧ ∀ {β : Type} (K : Kv β), callS (orc vE) 8 [.mp sp 0] st K = K (.mp (st.h + 1) 0) st' ⟨[], .all st st'⟩ := by
  obtain ⟨hr, v, hg, hv⟩ := id h
  have wr : vE.wrule 8 = some (copyR SOT DT 18) := rfl
  have sto : ∀ cs, cs = flat (ds.map Dc.val) → Sto ((st.new (.row ds.length DT 18 cs)).2.new (.cells SOT [.gs st.h 18 ds.length])).2 (st.h + 1) st.h ds := fun cs hcs => by
    subst hcs
    exact ⟨hr, _, St.get_new_ok.2 (.inl ⟨rfl, rfl⟩), .inr ⟨rfl, St.get_new_ok.2 (.inr ⟨Nat.lt_succ_self _, St.get_new_ok.2 (.inl ⟨rfl, rfl⟩)⟩)⟩⟩
  have kp : ∀ cs, Keeps st ((st.new (.row ds.length DT 18 cs)).2.new (.cells SOT [.gs st.h 18 ds.length])).2 (fun _ => False) := fun cs => (Keeps.add st _ _).trans (Keeps.add _ _ _)
  rcases hv with ⟨rfl, rfl⟩ | ⟨rfl, hw⟩
  · refine ⟨_, sto [] rfl, kp _, rfl, fun K => callS_wide K rfl (bares_mpR _ _ _ _) (wrule_of rfl wr ?_)⟩
    simp only [copyR, hg]
    rfl
  · have hc : ((ds.length.beq ds.length && (Nat.beq DT DT && (Nat.beq 18 18 && Nat.beq 18 18))) && ds.length.ble 1000000) = true := by
      rw [Nat.beq_refl, Nat.ble_eq_true_of_le hl]; rfl
    refine ⟨_, sto _ rfl, kp _, rfl, fun K => callS_wide K rfl (bares_mpR _ _ _ _) (wrule_of rfl wr ?_)⟩
    simp only [copyR, hg, hw, ok_bind, hc]
    rfl
def NmRow (lo : Nat) (st : St) (v : AV) (l : List B) : Prop := (v = .nils ∧ l = []) ∨ ∃ k, v = .gs k 1 l.length ∧ l ≠ [] ∧ lo ≤ k ∧ st.ro ≤ k ∧ st.get k = .ok (.row l.length 9 1 (l.map AV.str))
theorem NmRow.keeps {lo : Nat} {v : AV} {l : List B} (h : NmRow lo st v l) (k : Keeps st st' (fun _ => False)) : NmRow lo st' v l := by
  rcases h with h | ⟨j, h1, h2, h3, h4, h5⟩
  · exact .inl h
  · exact .inr ⟨j, h1, h2, h3, by rw [k.ro]; exact h4, k.old _ _ (fun f => f) h5⟩
abbrev strTI : TI := TI.mk U.str 1 16 [AV.str []] false false
theorem row_str {st0 : St} {v : AV} {l : List B} (h : NmRow st0.h st v l) (k0 : Keeps st0 st (fun _ => False)) (hro : st.ro ≤ st.h) (hl : l.length ≤ 1000000) (s : B) :
    ∃ v' st' fx, NmRow st0.h st' v' (l ++ [s]) ∧ Keeps st0 st' (fun _ => False) ∧ st'.ro ≤ st'.h ∧ ∀ {β : Type} (K : Kv β), planS (orc vE) (rowAnyP strTI 9 v (.sl 1 [.str s] .shut)) st K = K v' st' fx := by
  rcases h with ⟨rfl, rfl⟩ | ⟨k, rfl, h2, h3, h4, h5⟩
  · refine ⟨.gs st.h 1 1, st.add (.row 1 9 1 (flat [.str s])), _, .inr ⟨st.h, rfl, by simp, k0.h, hro, St.get_add_new⟩, k0.trans (Keeps.add _ _ _), ?_, fun K => row_first (i := strTI) rfl rfl rfl K⟩
    show st.ro ≤ st.h + 1
    omega
  · have hroom : roomOk (l.length + 1) strTI = true := room_of (n := l.length + 1) (z := 1) (b := 16) (by omega) (by omega) (by omega)
    have hlen : (l ++ [s]).length = l.length + 1 := by simp
    refine ⟨.gs k 1 (l.length + 1), st.put k (.row (l.length + 1) 9 1 (l.map AV.str ++ flat [.str s])), _, .inr ⟨k, by rw [hlen], by simp, h3, h4, ?_⟩, k0.fresh (Keeps.put rfl) h3, hro, fun K => row_next (i := strTI) h5 h4 rfl rfl hroom K⟩
    rw [hlen, List.map_append]
    exact St.get_put_same (St.get_ok.1 h5).1
theorem namesP_loop {st0 : St} (h0 : Sto st0 sp ow ds) (hw : st0.get ow = .ok (.row ds.length DT 18 (flat (ds.map Dc.val)))) (hlen : ds.length ≤ 1000000) : ∀ (m : List Dc) (i : Nat) (out : List B) (v : AV) (st : St), ds.drop i = m → NmRow st0.h st v out → Keeps st0 st (fun _ => False) → out.length + m.length ≤ 1000000 →
    ∃ v' st', loopO (w18_L1 (.gs ow 18 ds.length) ds.length) ([v, .int .i64 (i : Int)], st) = some (0, [v'], st') ∧ NmRow st0.h st' v' (out ++ m.map Dc.nm) ∧ Keeps st0 st' (fun _ => False)
  | [], i, out, v, st, hd, ho, hk, hl => by
    have := List.drop_eq_nil_iff.1 hd
    have q : ¬ (i : Int) < (ds.length : Int) := by omega
    refine ⟨v, st, loopO_inr ?_, by simpa using ho, hk⟩
    simp only [w18_L1, unc_cons, asI_int, un0_nil, ifB_decide, if_neg q]
  | d :: m, i, out, v, st, hd, ho, hk, hl => by
    obtain ⟨hg, hdr, hlt⟩ := drop_cons hd
    have q : (i : Int) < (ds.length : Int) := by omega
    have hst := h0.keeps hk
    have hws := hk.old _ _ (fun f => f) hw
    have ix := fun {β : Type} (K : AV → List Nat → Option β) => idxA_gs hws hlt K
    have ld := fun {β : Type} (K : AV → List Nat → Option β) => row_load hws hg K
    have a := fun j => (slot_pt d.pt j).asOne (β := Car ⊕ Nat × Car)
    obtain ⟨s1, g1, k1, n1, fx1, e1⟩ := local_var (O := orc vE) (st := st) (t := DT) (z := 18) (old := [AV.str [], AV.int .i64 0, AV.nilp, AV.int .i64 0, AV.nilp, AV.int .i64 0, AV.nilp, AV.int .i64 0, AV.nilp, AV.int .i64 0, AV.nilp, AV.int .i64 0, AV.nilp, AV.int .i64 0, AV.nilp, AV.int .i64 0, AV.nilp, AV.int .i64 0]) (cs := docC d.nm d.pv) (.agg (docC d.nm d.pv)) rfl rfl hst.ro
    have l1 : ∀ {β : Type} (K : AV → List Nat → Option β), loadS 1 false (.mp st.h 0) s1 K = K (.str d.nm) [st.h] := fun K => by rw [loadS_mp g1]; rfl
    have hw1 : IntKind.wrap .i64 ((i : Int) + 1) = ((i + 1 : Nat) : Int) := wrapA1 (by omega)
    obtain ⟨v1, s2, x1, ho2, k2, hro2, e2⟩ := row_str (ho.keeps k1) (hk.trans k1) (by rw [k1.ro, hst.1]; exact Nat.zero_le _) (by simp only [List.length_cons] at hl; omega) d.nm
    obtain ⟨v', st', e, o3, hk3⟩ := namesP_loop h0 hw hlen m (i + 1) (out ++ [d.nm]) v1 s2 hdr ho2 k2 (by simp only [List.length_append, List.length_cons, List.length_nil] at hl ⊢; omega)
    refine ⟨v', st', (loopO_inl ?_).trans e, by simpa using o3, hk3⟩
    simp only [Dc.val, docC, docN, docS] at ld e1
    simp only [w18_L1, unc_cons, asI_int, un0_nil, ifB_decide, if_pos q, ix, ld, unA_agg, asS_str, letSt_eq, a]
    refine (e1 _).trans ?_
    simp only [l1, asS_str, e2, letV_eq, hw1]
theorem call_namesP (h : Sto st sp ow ds) (hlen : ds.length ≤ 1000000) : ∃ v st', NmRow st.h st' v (ds.map Dc.nm) ∧ Keeps st st' (fun _ => False) ∧ ∀ {β : Type} (K : Kv β), callS (orc vE) 18 [.mp sp 0] st K = K v st' ⟨[], .all st st'⟩ := by
  have l1 : ∀ {v : AV}, st.get sp = .ok (.cells SOT [v]) → ∀ {β : Type} (K : AV → List Nat → Option β), loadS 1 false (.mp sp 0) st K = K v [sp] := fun hg _ K => by rw [loadS_mp hg]; rfl
  obtain ⟨hr, v, hg, hv⟩ := id h
  rcases hv with ⟨rfl, rfl⟩ | ⟨rfl, hw⟩
  · have e : loopO (w18_L1 .nils 0) ([.nils, .int .i64 0], st) = some (0, [.nils], st) := by
      refine loopO_inr ?_
      have q : ¬ (0 : Int) < ((0 : Nat) : Int) := by omega
      simp only [w18_L1, unc_cons, asI_int, un0_nil, ifB_decide, if_neg q]
    refine ⟨.nils, st, .inl ⟨rfl, rfl⟩, Keeps.refl _ _, fun K => callS_wide K rfl (bares_mpR _ _ _ _) (wide_of ((w18_eq _ _).trans ?_))⟩
    simp only [w18, nil_mp, ifB_false, notNil_mp, chk_true, fldA_mp, Nat.add_zero, l1 hg, lenS_nils, e, bindO_ok, unc_cons, un0_nil, oneOf_one]
  · obtain ⟨v', st', e, o, k⟩ := namesP_loop h hw hlen ds 0 [] .nils st rfl (.inl ⟨rfl, rfl⟩) (Keeps.refl _ _) (by simpa using hlen)
    have e : loopO (w18_L1 (.gs ow 18 ds.length) ds.length) ([.nils, .int .i64 0], st) = _ := e
    refine ⟨v', st', by simpa using o, k, fun K => callS_wide K rfl (bares_mpR _ _ _ _) (wide_of ((w18_eq _ _).trans ?_))⟩
    simp only [w18, nil_mp, ifB_false, notNil_mp, chk_true, fldA_mp, Nat.add_zero, l1 hg, lenS_gs, e, bindO_ok, unc_cons, un0_nil, oneOf_one]
theorem textsP_loop {k : Nat} {y : AV} {l : List B} {sy : St} (hk : st.get k = .ok (.row l.length 9 1 (l.map AV.str))) (hy : Own sy 1 9 y (l.map AV.str)) (hl : l.length ≤ 1000000) : ∀ (m : List B) (i : Nat), l.drop i = m →
    loopO (w19_L1 (.gs k 1 l.length) y) ([.bool false, .int .i64 (i : Int)], st) = some (0, [.bool false], st)
  | [], i, hd => by
    have := List.drop_eq_nil_iff.1 hd
    have q : ¬ (i : Int) < (l.length : Int) := by omega
    refine loopO_inr ?_
    simp only [w19_L1, unc_cons, asI_int, asB_bool, un0_nil, lenS_gs, ifB_decide, if_neg q]
  | u :: m, i, hd => by
    obtain ⟨hg, hdr, hlt⟩ := drop_cons hd
    have q : (i : Int) < (l.length : Int) := by omega
    have ix := fun {β : Type} (K : AV → List Nat → Option β) => idxA_gs hk hlt K
    have hdrop : (l.map AV.str).drop i = .str u :: (l.map AV.str).drop (i + 1) := by
      rw [← List.map_drop, hd, ← List.map_drop, hdr]; rfl
    have ld : ∀ {β : Type} (K : AV → List Nat → Option β), loadS 1 false (.gp k l.length (i * 1)) st K = K (.str u) [k] := fun K => by
      rw [loadS_gp hk, Nat.mul_one, hdrop]; rfl
    have iy : ∀ {β : Type} (K : AV → List Nat → Option β), idxA 1 y (i : Int) st K = K (.ip [.str u]) [] := fun K => own_idx hy (show (l.map AV.str)[i]? = some (.str u) by rw [List.getElem?_map, hg]; rfl) st K
    have hw1 : IntKind.wrap .i64 ((i : Int) + 1) = ((i + 1 : Nat) : Int) := wrapA1 (by omega)
    refine (loopO_inl ?_).trans (textsP_loop hk hy hl m (i + 1) hdr)
    simp only [w19_L1, unc_cons, asI_int, asB_bool, un0_nil, lenS_gs, ifB_decide, if_pos q, ix]
    refine (ld _).trans ?_
    simp only [asS_str, iy, loadS_ip, tl1, beq_self_eq_true, Bool.not_true, ifB_false, letV_eq, hw1]
theorem call_textsP {lo : Nat} {v y : AV} {l : List B} {sy : St} (h : NmRow lo st v l) (hy : Own sy 1 9 y (l.map AV.str)) (hl : l.length ≤ 1000000) : ∃ fx, ∀ {β : Type} (K : Kv β), callS (orc vE) 19 [v, y] st K = K (.bool true) st fx := by
  rcases h with ⟨rfl, rfl⟩ | ⟨k, rfl, h2, h3, h4, h5⟩
  · obtain ⟨u, hu, hu2⟩ := own_strip hy
    refine ⟨_, fun K => callS_strip st K rfl (by simp only [List.map_cons, List.map_nil, hu]; rfl) (by simp only [bares_cons, hu2.bare]; rfl) ((texts_ok (a := []) (b := []) IsSl.nils hu2).trans ?_)⟩
    rfl
  · have e := textsP_loop h5 hy hl l 0 rfl
    have e : loopO (w19_L1 (.gs k 1 l.length) y) ([.bool false, .int .i64 0], st) = _ := e
    have hb : (bares ((AV.gs k 1 l.length :: [y]).map strip) && !vE.full 19) = false := by
      have : bares ((AV.gs k 1 l.length :: [y]).map strip) = false := rfl
      rw [this]; rfl
    refine ⟨_, fun K => callS_wide K rfl hb (wide_of ((w19_eq _ _ _).trans ?_))⟩
    simp only [w19, lenS_gs, own_len hy, List.length_map, bne_self_eq_false, ifB_false, e, bindO_ok, unc_cons, asB_bool, un0_nil, sel2_zero]
end
def PO (st : St) (sp : Nat) (o : Option Nat) (ds : List Dc) : Prop := st.ro = 0 ∧ match o with
  | none => ds = [] ∧ st.get sp = .ok (.cells SOT [.nils])
  | some w => st.get sp = .ok (.cells SOT [.gs w 18 ds.length]) ∧ st.get w = .ok (.row ds.length DT 18 (flat (ds.map Dc.val)))
def QO (st : St) (xp : Nat) (q : Option Nat) (L : List RD) : Prop := st.ro = 0 ∧ match q with
  | none => L = [] ∧ st.get xp = .ok (.cells RST [.nils])
  | some w => st.get xp = .ok (.cells RST [.gs w 2 L.length]) ∧ ∃ es, st.get w = .ok (.row L.length RDT 2 (flat es)) ∧ IsR L es
section
variable {st st' : St} {sp xp : Nat} {o q : Option Nat} {ds : List Dc} {L : List RD}
theorem PO.sto (h : PO st sp o ds) (d : Nat) : Sto st sp (o.getD d) ds := by
  obtain ⟨hr, h⟩ := h
  cases o with
  | none => exact ⟨hr, _, h.2, .inl ⟨rfl, h.1⟩⟩
  | some w => exact ⟨hr, _, h.1, .inr ⟨rfl, h.2⟩⟩
theorem Sto.po {ow : Nat} (h : Sto st sp ow ds) : ∃ o, PO st sp o ds ∧ ∀ w, o = some w → w = ow := by
  obtain ⟨hr, v, hg, ⟨rfl, rfl⟩ | ⟨rfl, hw⟩⟩ := h
  · exact ⟨none, ⟨hr, rfl, hg⟩, fun w h => by cases h⟩
  · exact ⟨some ow, ⟨hr, hg, hw⟩, fun w h => by cases h; rfl⟩
theorem QO.rst (h : QO st xp q L) (d : Nat) : RSt st xp (q.getD d) L := by
  obtain ⟨hr, h⟩ := h
  cases q with
  | none => exact ⟨hr, _, h.2, .inl ⟨rfl, h.1⟩⟩
  | some w => exact ⟨hr, _, h.1, .inr ⟨rfl, h.2⟩⟩
theorem RSt.qo {ow : Nat} (h : RSt st xp ow L) : ∃ q, QO st xp q L ∧ ∀ w, q = some w → w = ow := by
  obtain ⟨hr, v, hg, ⟨rfl, rfl⟩ | ⟨rfl, hw⟩⟩ := h
  · exact ⟨none, ⟨hr, rfl, hg⟩, fun w h => by cases h⟩
  · exact ⟨some ow, ⟨hr, hg, hw⟩, fun w h => by cases h; rfl⟩
theorem get_ne {a b : Nat} {x y : VM.Obj} (h : st.get a = .ok x) (k : st.get b = .ok y) (e : x ≠ y) : a ≠ b := fun q => by
  subst q
  rw [h] at k
  exact e (Except.ok.inj k)
theorem PO.cell (h : PO st sp o ds) : ∃ v, st.get sp = .ok (.cells SOT [v]) := by
  obtain ⟨_, h⟩ := h
  cases o with
  | none => exact ⟨_, h.2⟩
  | some w => exact ⟨_, h.1⟩
theorem PO.row (h : PO st sp o ds) {w : Nat} (hw : o = some w) : st.get w = .ok (.row ds.length DT 18 (flat (ds.map Dc.val))) := by
  subst hw; exact h.2.2
theorem QO.cell (h : QO st xp q L) : ∃ v, st.get xp = .ok (.cells RST [v]) := by
  obtain ⟨_, h⟩ := h
  cases q with
  | none => exact ⟨_, h.2⟩
  | some w => exact ⟨_, h.1⟩
theorem QO.row (h : QO st xp q L) {w : Nat} (hw : q = some w) : ∃ cs, st.get w = .ok (.row L.length RDT 2 cs) := by
  subst hw
  obtain ⟨_, _, es, h, _⟩ := h
  exact ⟨_, h⟩
theorem PO.keep {but : Nat → Prop} (h : PO st sp o ds) (k : Keeps st st' but) (h1 : ¬ but sp) (h2 : ∀ w, o = some w → ¬ but w) : PO st' sp o ds := by
  obtain ⟨hr, h⟩ := h
  refine ⟨by rw [k.ro]; exact hr, ?_⟩
  cases o with
  | none => exact ⟨h.1, k.old _ _ h1 h.2⟩
  | some w => exact ⟨k.old _ _ h1 h.1, k.old _ _ (h2 w rfl) h.2⟩
theorem QO.keep {but : Nat → Prop} (h : QO st xp q L) (k : Keeps st st' but) (h1 : ¬ but xp) (h2 : ∀ w, q = some w → ¬ but w) : QO st' xp q L := by
  obtain ⟨hr, h⟩ := h
  refine ⟨by rw [k.ro]; exact hr, ?_⟩
  cases q with
  | none => exact ⟨h.1, k.old _ _ h1 h.2⟩
  | some w =>
    obtain ⟨h0, es, h3, h4⟩ := h
    exact ⟨k.old _ _ h1 h0, es, k.old _ _ (h2 w rfl) h3, h4⟩
def Own1 (sp : Nat) (o : Option Nat) (j : Nat) : Prop := j = sp ∨ o = some j
theorem pq_apart (h : PO st sp o ds) (k : QO st xp q L) : ∀ j, Own1 sp o j → ¬ Own1 xp q j := by
  obtain ⟨v, hv⟩ := h.cell
  obtain ⟨u, hu⟩ := k.cell
  have tne : SOT ≠ RST := by decide
  have rne : DT ≠ RDT := by decide
  rintro j (rfl | hj) (rfl | hk)
  · exact get_ne hv hu (fun e => by injection e with e1; exact tne e1) rfl
  · obtain ⟨cs, hc⟩ := k.row hk
    exact get_ne hv hc (fun e => by cases e) rfl
  · exact get_ne (h.row hj) hu (fun e => by cases e) rfl
  · obtain ⟨cs, hc⟩ := k.row hk
    exact get_ne (h.row hj) hc (fun e => by injection e with _ e1; exact rne e1) rfl
theorem PO.keep1 {j0 : Nat} {p : Option Nat} (h : PO st sp o ds) (k : Keeps st st' (Own1 j0 p)) (ha : ∀ j, Own1 sp o j → ¬ Own1 j0 p j) : PO st' sp o ds :=
  h.keep k (ha _ (.inl rfl)) fun _ hw => ha _ (.inr hw)
theorem QO.keep1 {j0 : Nat} {p : Option Nat} (h : QO st xp q L) (k : Keeps st st' (Own1 j0 p)) (ha : ∀ j, Own1 xp q j → ¬ Own1 j0 p j) : QO st' xp q L :=
  h.keep k (ha _ (.inl rfl)) fun _ hw => ha _ (.inr hw)
theorem openE_zP {ds : List Dc} {nm : B} {no : Int} {tx : B} (h : openE ds nm no tx = 0) : findN nm ds 0 = none ∧ ds.length < 32 ∧ badN no = false ∧ tx.length ≤ 65536 ∧ validS tx = true := by
  unfold openE at h
  split at h
  · cases h
  · rename_i hf
    repeat' split at h
    all_goals first | (cases h; done) | skip
    rename_i h1 h2 h3 h4
    refine ⟨hf, by omega, by simpa using h2, by omega, h4⟩
structure After (st st' : St) (sp : Nat) (o o' : Option Nat) : Prop where
  keeps : Keeps st st' (Own1 sp o)
  own : ∀ w, o' = some w → o = some w ∨ st.h ≤ w
theorem after_same (k : Keeps st st' (fun _ => False)) : After st st' sp o o := ⟨k.weak fun _ f => f.elim, fun _ h => .inl h⟩
theorem getD_own {ow' : Nat} (h : ow' = o.getD st.h ∨ st.h ≤ ow') : o = some ow' ∨ st.h ≤ ow' := by
  cases o with
  | none => rcases h with h | h
            · exact .inr (by have : ow' = st.h := h; omega)
            · exact .inr h
  | some w => rcases h with h | h
              · exact .inl (by rw [h]; rfl)
              · exact .inr h
theorem own_getD {p : Nat → Prop} {st st' : St} (k : Keeps st st' p) (hp : ∀ j, p j → j = sp ∨ j = o.getD st.h) : Keeps st st' (Own1 sp o) :=
  ⟨k.ro, k.h, fun j x hj hg => k.old j x (fun hpj => by
    rcases hp j hpj with h | h
    · exact hj (.inl h)
    · cases o with
      | none => have := (St.get_ok.1 hg).1; simp at h; omega
      | some w => exact hj (.inr (by rw [h]; rfl))) hg⟩
theorem p_open (h : PO st sp o ds) (ok : DsOk ds) (nm : B) (no : Int) (tx : B) (ht : tx.length ≤ 1000000) : ∃ st' o' ds', PO st' sp o' ds' ∧ After st st' sp o o' ∧ DsOk ds' ∧ (VaOk ds → VaOk ds') ∧
    (openE ds nm no tx ≠ 0 → ds' = ds) ∧ (openE ds nm no tx = 0 → ∃ t, t.text = tx ∧ ds' = ds ++ [⟨nm, [(no, t)]⟩]) ∧ ∀ {β : Type} (K : Kv β), callS (orc vE) 9 [.mp sp 0, .str nm, .int .i64 no, .str tx] st K = K (.int .i64 (openE ds nm no tx : Int)) st' ⟨[], .all st st'⟩ := by
  obtain ⟨s, e, k0, k1⟩ := openS_ok (h.sto st.h) ok.len nm no tx ht
  have ce := fun {β : Type} (K : Kv β) => callS_wide K rfl (bares_mpR sp 0 _ 9) e
  by_cases he : openE ds nm no tx = 0
  · obtain ⟨t, ow', wt, tt, hs, kk, hw⟩ := k1 he
    obtain ⟨o', hp, ho'⟩ := hs.po
    obtain ⟨a1, a2, a3, a4, a5⟩ := openE_zP he
    have hsz : t.size ≤ 65536 := by rw [← size_text, tt]; exact a4
    exact ⟨s, o', _, hp, ⟨own_getD kk fun j hj => hj, fun w hw' => by rw [ho' w hw']; exact getD_own hw⟩, does_ok ok (Does.opened (s := ⟨0, nm, no, tx, []⟩) t wt hsz a1 a2 a3), fun va => va_app va (by rw [tt]; exact a5), fun hn => absurd he hn, fun _ => ⟨t, tt, rfl⟩, ce⟩
  · exact ⟨s, o, ds, h.keep (k0 he) (fun f => f) (fun _ _ f => f), after_same (k0 he), ok, fun va => va, fun _ => rfl, fun h => absurd h he, ce⟩
theorem p_change (h : PO st sp o ds) (ok : DsOk ds) (nm : B) (no : Int) {x : AV} {cs : List Chg} (hx : IsSl 6 x (cs.map chgV)) (hcl : ∀ c ∈ cs, c.text.length ≤ 1000000) (hlen : cs.length ≤ 1000000) : ∃ st' o' ds' e, PO st' sp o' ds' ∧ After st st' sp o o' ∧ DsOk ds' ∧
    (match changeE ds nm no cs with
    | .error e' => e = e' ∧ ds' = ds
    | .ok (i, u) => e = 0 ∧ ∃ t d, ds[i]? = some d ∧ t.text = u ∧ ds' = ds.set i ⟨d.nm, d.vs ++ [(no, t)]⟩) ∧ ∀ {β : Type} (K : Kv β), callS (orc vE) 10 [.mp sp 0, .str nm, .int .i64 no, x] st K = K (.int .i64 (e : Nat)) st' ⟨[], .all st st'⟩ := by
  have hch := changeS_ok (h.sto st.h) ok.ok (by have := ok.len; omega) nm no hx hcl hlen
  have hE : ∀ i u, changeE ds nm no cs = .ok (i, u) → ∃ v d, findN nm ds 0 = some i ∧ ds[i]? = some d ∧ d.vs.getLast? = some v ∧ v.1 < no ∧ badN no = false := fun i u he => by
    unfold changeE at he
    cases hf : findN nm ds 0 with
    | none => rw [hf] at he; cases he
    | some j =>
      obtain ⟨d, hd, hn⟩ := find_doc hf
      obtain ⟨v, hv⟩ := last_of (ok.ok d (List.mem_of_getElem? hd))
      rw [hf] at he
      simp only [hd, Option.bind_some, hv] at he
      cases hb : badN no with
      | true => rw [hb] at he; cases he
      | false =>
        by_cases hle : no ≤ v.1
        · simp only [hb, if_pos hle] at he
          split at he <;> cases he
        · simp only [hb, if_neg hle, Bool.false_eq_true, if_false] at he
          split at he
          · cases he
          · cases he
            exact ⟨v, d, rfl, hd, hv, by omega, rfl⟩
  cases he : changeE ds nm no cs with
  | error e' =>
    rw [he] at hch
    obtain ⟨_, s, e, k⟩ := hch
    exact ⟨s, o, ds, e', h.keep k (fun f => f) (fun _ _ f => f), after_same k, ok, ⟨rfl, rfl⟩, fun K => callS_wide K rfl (bares_mpR sp 0 _ 10) e⟩
  | ok r =>
    obtain ⟨i, u⟩ := r
    rw [he] at hch
    obtain ⟨t, d, s, hd, hn, wt, hsz, tt, e, hs, kk⟩ := hch
    obtain ⟨o', hp, ho'⟩ := hs.po
    obtain ⟨v, d2, hf, hd2, hv, hlt, hb⟩ := hE i u he
    rw [hd] at hd2
    cases hd2
    exact ⟨s, o', _, 0, hp, ⟨own_getD kk fun j hj => .inr hj, fun w hw' => by rw [ho' w hw']; exact getD_own (.inl rfl)⟩, does_ok ok (Does.changed (s := ⟨1, nm, no, [], cs⟩) i d v t rfl wt hsz hf hd hv hlt hb), ⟨rfl, t, d, hd, tt, rfl⟩, fun K => callS_wide K rfl (bares_mpR sp 0 _ 10) e⟩
theorem p_close (h : PO st sp o ds) (ok : DsOk ds) (nm : B) : ∃ st' o' ds', PO st' sp o' ds' ∧ After st st' sp o o' ∧ DsOk ds' ∧ (VaOk ds → VaOk ds') ∧
    (match findN nm ds 0 with | none => ds' = ds | some i => ds' = ds.eraseIdx i) ∧ ∀ {β : Type} (K : Kv β), callS (orc vE) 12 [.mp sp 0, .str nm] st K = K (.int .i64 (closeE ds nm)) st' ⟨[], .all st st'⟩ := by
  have hc := close_ok (h.sto st.h) (by have := ok.len; omega) nm
  unfold closeE
  cases hf : findN nm ds 0 with
  | none =>
    rw [hf] at hc
    obtain ⟨s, k, e⟩ := hc
    exact ⟨s, o, ds, h.keep k (fun f => f) (fun _ _ f => f), after_same k, ok, fun va => va, rfl, e⟩
  | some i =>
    rw [hf] at hc
    obtain ⟨s, ow', hs, kk, hle, e⟩ := hc
    obtain ⟨o', hp, ho'⟩ := hs.po
    exact ⟨s, o', _, hp, ⟨own_getD kk fun j hj => hj, fun w hw' => by rw [ho' w hw']; exact .inr hle⟩, does_ok ok (Does.closed (s := ⟨2, nm, 0, [], []⟩) i rfl hf), fun va => va_erase va i, rfl, e⟩
def Bo (st : St) (sp xp : Nat) (ds : List Dc) : Prop := DsOk ds ∧ VaOk ds ∧ (∃ o, PO st sp o ds) ∧ ∃ q, QO st xp q (ds.map lk)
theorem Bo.keeps (h : Bo st sp xp ds) (k : Keeps st st' (fun _ => False)) : Bo st' sp xp ds := by
  obtain ⟨ok, va, ⟨o, hp⟩, q, hq⟩ := h
  exact ⟨ok, va, ⟨o, hp.keep k (fun f => f) fun _ _ f => f⟩, q, hq.keep k (fun f => f) fun _ _ f => f⟩
theorem PO.lt (h : PO st sp o ds) : ∀ j, Own1 sp o j → j < st.h := by
  rintro j (rfl | hj)
  · obtain ⟨v, hv⟩ := h.cell; exact (St.get_ok.1 hv).1
  · exact (St.get_ok.1 (h.row hj)).1
theorem QO.past {o' : Option Nat} (hp : PO st sp o ds) (hq : QO st xp q L) (ha : After st st' sp o o') : QO st' xp q L := hq.keep1 ha.keeps fun j hj hk => pq_apart hp hq j hk hj
theorem q_one {p : Nat → Prop} {s : St} {ds' : List Dc} (hp : PO st sp o ds') (hq : QO st xp q L) (k : Keeps st s p) (hpp : ∀ j, p j → j = xp ∨ j = q.getD st.h) : PO s sp o ds' :=
  hp.keep1 (own_getD k hpp) fun j hj hk => pq_apart hp hq j hj hk
end
section
variable {st : St} {sp xp : Nat} {o q : Option Nat} {ds : List Dc} {L : List RD}
theorem q_ne (h : QO st xp q L) : xp ≠ q.getD st.h := by
  obtain ⟨v, hv⟩ := h.cell
  cases q with
  | none => have := (St.get_ok.1 hv).1; show xp ≠ st.h; omega
  | some w =>
    obtain ⟨cs, hc⟩ := h.row rfl
    exact get_ne hv hc (fun e => by cases e)
theorem lk_len (ds : List Dc) : (ds.map lk).length = ds.length := List.length_map _
theorem b_open (h : Bo st sp xp ds) (nm : B) (no : Int) (tx : B) (ht : tx.length ≤ 1000000) : ∃ s1 s2 ds' e, Bo s2 sp xp ds' ∧ (∀ {β : Type} (K : Kv β), callS (orc vE) 9 [.mp sp 0, .str nm, .int .i64 no, .str tx] st K = K (.int .i64 e) s1 ⟨[], .all st s1⟩) ∧
    ∀ {β : Type} (K : Kv β), callS (orc vE) 13 [.mp xp 0, .str nm, .int .i64 no, .str tx] s1 K = K (.int .i64 e) s2 ⟨[], .all s1 s2⟩ := by
  obtain ⟨ok, va, ⟨o, hp⟩, q, hq⟩ := h
  obtain ⟨s1, o1, ds1, hp1, ha1, ok1, va1, n1, z1, c1⟩ := p_open hp ok nm no tx ht
  have hq1 := hq.past hp ha1
  obtain ⟨⟨v, s2⟩, e2, hv, hn, hz⟩ := open_okR (hq1.rst s1.h) (q_ne hq1) (by rw [lk_len]; exact ok.len) nm no tx
  rw [open_lk] at hv hn hz
  dsimp only at hv hn hz
  subst hv
  have c2 := fun {β : Type} (K : Kv β) => callS_wide K rfl (bares_mpR xp 0 _ 13) e2
  refine ⟨s1, s2, ds1, _, ⟨ok1, va1 va, ?_⟩, c1, c2⟩
  by_cases he : openE ds nm no tx = 0
  · obtain ⟨t, tt, rfl⟩ := z1 he
    obtain ⟨w, hr, k, _⟩ := hz he
    obtain ⟨q2, hq2, _⟩ := hr.qo
    refine ⟨⟨o1, q_one hp1 hq1 k fun j hj => hj⟩, q2, ?_⟩
    have hl : (ds ++ [Dc.mk nm [(no, t)]]).map lk = ds.map lk ++ [RD.mk nm [(no, tx)]] := by
      rw [List.map_append, ← tt]; rfl
    rw [hl]; exact hq2
  · rw [n1 he] at hp1 ⊢
    rw [hn he]
    exact ⟨⟨o1, hp1⟩, q, hq1⟩
theorem b_change (h : Bo st sp xp ds) (nm : B) (no : Int) {x y : AV} {cs : List Chg} (hx : IsSl 6 x (cs.map chgV)) (hy : IsSl 6 y (cs.map chgV)) (hcl : ∀ c ∈ cs, c.text.length ≤ 100000) (hlen : cs.length ≤ 1000000) : ∃ s1 s2 ds' e, Bo s2 sp xp ds' ∧
    (∀ {β : Type} (K : Kv β), callS (orc vE) 10 [.mp sp 0, .str nm, .int .i64 no, x] st K = K (.int .i64 e) s1 ⟨[], .all st s1⟩) ∧
    ∀ {β : Type} (K : Kv β), callS (orc vE) 14 [.mp xp 0, .str nm, .int .i64 no, y] s1 K = K (.int .i64 e) s2 ⟨[], .all s1 s2⟩ := by
  obtain ⟨ok, va, ⟨o, hp⟩, q, hq⟩ := h
  obtain ⟨s1, o1, ds1, e, hp1, ha1, ok1, hm, c1⟩ := p_change hp ok nm no hx (fun c hc => by have := hcl c hc; omega) hlen
  have hq1 := hq.past hp ha1
  have hlk := change_lk ok va nm no cs
  obtain ⟨⟨v, s2⟩, e2, hv⟩ := change_okR (hq1.rst s1.h) (q_ne hq1) (by rw [lk_len]; have := ok.len; omega) (docs_lk ok va) nm no (show IsSl 6 y (cs.map chgR) from hy) hcl hlen
  have c2 := fun {β : Type} (K : Kv β) => callS_wide K rfl (bares_mpR xp 0 _ 14) e2
  cases he : changeE ds nm no cs with
  | error e' =>
    rw [he] at hm hlk
    obtain ⟨rfl, rfl⟩ := hm
    rw [show changeR _ nm no cs = _ from hlk] at hv
    obtain ⟨hv, k⟩ := hv
    dsimp only at hv k
    subst hv
    exact ⟨s1, s2, _, _, ⟨ok1, va, ⟨o1, hp1.keep k (fun f => f) fun _ _ f => f⟩, q, hq1.keep k (fun f => f) fun _ _ f => f⟩, c1, c2⟩
  | ok r =>
    obtain ⟨i, u⟩ := r
    rw [he] at hm hlk
    obtain ⟨rfl, t, d, hd, tt, rfl⟩ := hm
    obtain ⟨d2, v2, hd2, hn, hl2, _, _, _, hvu, hlk⟩ := hlk
    rw [hd] at hd2
    cases hd2
    rw [hlk] at hv
    obtain ⟨hv, _, _, hr, k⟩ := hv
    dsimp only at hv hr k
    subst hv
    obtain ⟨q2, hq2, _⟩ := hr.qo
    refine ⟨s1, s2, _, _, ⟨ok1, va_set va (List.mem_of_getElem? hd) (by rw [tt]; exact hvu), ⟨o1, q_one hp1 hq1 k fun j hj => .inr hj⟩, q2, ?_⟩, c1, c2⟩
    rw [← set_lk hn tt]
    exact hq2
theorem b_close (h : Bo st sp xp ds) (nm : B) : ∃ s1 s2 ds' e, Bo s2 sp xp ds' ∧ (∀ {β : Type} (K : Kv β), callS (orc vE) 12 [.mp sp 0, .str nm] st K = K (.int .i64 e) s1 ⟨[], .all st s1⟩) ∧
    ∃ fx, ∀ {β : Type} (K : Kv β), callS (orc vE) 15 [.mp xp 0, .str nm] s1 K = K (.int .i64 e) s2 fx := by
  obtain ⟨ok, va, ⟨o, hp⟩, q, hq⟩ := h
  obtain ⟨s1, o1, ds1, hp1, ha1, ok1, va1, hm, c1⟩ := p_close hp ok nm
  have hq1 := hq.past hp ha1
  have hc := close_okR (hq1.rst s1.h) (by rw [lk_len]; have := ok.len; omega) nm
  rw [find_lk] at hc
  unfold closeE at c1
  cases hf : findN nm ds 0 with
  | none =>
    rw [hf] at hm hc c1
    subst hm
    exact ⟨s1, s1, _, _, ⟨ok1, va, ⟨o1, hp1⟩, q, hq1⟩, c1, _, hc⟩
  | some i =>
    rw [hf] at hm hc c1
    subst hm
    obtain ⟨s2, hr, k, c2⟩ := hc
    obtain ⟨q2, hq2, _⟩ := hr.qo
    refine ⟨s1, s2, _, _, ⟨ok1, va1 va, ⟨o1, q_one hp1 hq1 k fun j hj => .inl hj⟩, q2, ?_⟩, c1, _, c2⟩
    rw [← map_erase]; exact hq2
theorem b_at (h : Bo st sp xp ds) (nm : B) (no : Int) : ∃ s1 a, Keeps st s1 (fun _ => False) ∧ Bo s1 sp xp ds ∧ (∀ {β : Type} (K : Kv β), callS (orc vE) 16 [.mp sp 0, .str nm, .int .i64 no] st K = K (atA a) s1 ⟨[], .all st s1⟩) ∧
    ∀ {β : Type} (K : Kv β), callS (orc vE) 17 [.mp xp 0, .str nm, .int .i64 no] s1 K = K (atA a) s1 ⟨[], .all s1 s1⟩ := by
  have h0 := h
  obtain ⟨ok, va, ⟨o, hp⟩, q, hq⟩ := h
  obtain ⟨s1, k, c1⟩ := call_at (hp.sto st.h) ok.ok (by have := ok.len; omega) nm no
  have hq1 := hq.keep k (fun f => f) fun _ _ f => f
  have e2 := at_okR (hq1.rst s1.h) (by rw [lk_len]; have := ok.len; omega) (fun d hd => by have := (docs_lk ok va d hd).2.1; omega) nm no
  rw [at_lk] at e2
  refine ⟨s1, atT ds nm no, k, h0.keeps k, fun K => (c1 K).trans ?_, fun K => callS_wide K rfl (bares_mpR xp 0 _ 17) e2⟩
  cases atT ds nm no <;> rfl
theorem one_ok (h : Bo st sp xp ds) {s : Stp} {e : AV} (he : StpV s e) (ht : s.text.length ≤ 3000) (hcl : s.cs.length < 3000) (hct : ∀ c ∈ s.cs, c.text.length < 3000) :
    Goes ((orc vE).wide 6 [.mp sp 0, .mp xp 0, e] st) (fun r => r.1 = .bool true ∧ ∃ ds', Bo r.2 sp xp ds') := by
  obtain ⟨v, hv, rfl⟩ := he
  have f1 := fun {β : Type} (K : AV → Option β) => hv.fit1 K
  have a1 : ∀ {β : Type} (K : Option β), asOne v K = K := fun K => asOne_of (by rcases hv.2 with ⟨rfl | rfl, _⟩ | rfl | rfl <;> rfl) K
  refine Goes.wide (Goes.step (w6_eq _ _ _ _) ?_)
  have ap1 : ∀ a b : St, apart ⟨[], .all a b⟩ ⟨[], .kept⟩ = true := fun _ _ => rfl
  have ap2 : apart ⟨[], .kept⟩ q0 = true := rfl
  have ap3 : apart q0 ⟨[], .kept⟩ = true := rfl
  simp only [w6, unA_agg, unc_cons, asI_int, asS_str, un0_nil, a1, f1, ifB_beq]
  by_cases k0 : s.kind = 0
  · obtain ⟨s1, s2, ds', e, hb, c1, c2⟩ := b_open h s.name s.no s.text (by omega)
    simp only [if_pos k0, c1, asI_int, ap1, Bool.and_true, chk_true, c2, beq_self_eq_true]
    exact Goes.some ⟨rfl, ds', hb⟩
  · simp only [if_neg k0]
    by_cases k1 : s.kind = 1
    · obtain ⟨y, hy, cg⟩ := call_given hv (by omega)
      obtain ⟨s1, s2, ds', e, hb, c1, c2⟩ := b_change h s.name s.no hy hv (fun c hc => by have := hct c hc; omega) (by omega)
      simp only [if_pos k1, cg, ap2, ap3, Bool.and_true, chk_true, c1, asI_int, ap1, c2, beq_self_eq_true]
      exact Goes.some ⟨rfl, ds', hb⟩
    · simp only [if_neg k1]
      by_cases k2 : s.kind = 2
      · obtain ⟨s1, s2, ds', e, hb, c1, fx, c2⟩ := b_close h s.name
        simp only [if_pos k2, c1, asI_int, ap1, Bool.and_true, chk_true, c2, beq_self_eq_true]
        exact Goes.some ⟨rfl, ds', hb⟩
      · obtain ⟨s1, a, _, hb, c1, c2⟩ := b_at h s.name s.no
        simp only [if_neg k2, c1, c2]
        cases a with
        | none =>
          simp only [atA, unT_tup, nthS_zero, nthS_one, asS_str, asI_int, beq_self_eq_true, ifB_true, bindO_ok, unc_cons, asB_bool, un0_nil]
          exact Goes.some ⟨rfl, ds, hb⟩
        | some t =>
          simp only [atA, unT_tup, nthS_zero, nthS_one, asS_str, asI_int, beq_self_eq_true, ifB_true, bindO_ok, unc_cons, asB_bool, un0_nil]
          exact Goes.some ⟨rfl, ds, hb⟩
end
section
variable {st st0 : St} {sp xp : Nat} {ds : List Dc}
theorem b_last (h : Bo st sp xp ds) (nm : B) : ∃ s1 s2 a b c, Keeps st s2 (fun _ => False) ∧ (∀ {β : Type} (K : Kv β), callS (orc vE) 21 [.mp sp 0, .str nm] st K = K (.tup [.int .i64 a, .str b, .int .i64 c]) s1 ⟨[], .all st s1⟩) ∧
    ∀ {β : Type} (K : Kv β), callS (orc vE) 22 [.mp xp 0, .str nm] s1 K = K (.tup [.int .i64 a, .str b, .int .i64 c]) s2 ⟨[], .all s1 s2⟩ := by
  obtain ⟨ok, va, ⟨o, hp⟩, q, hq⟩ := h
  obtain ⟨s1, k, c1⟩ := call_lastS (hp.sto st.h) ok.ok (by have := ok.len; omega) nm
  have hq1 := hq.keep k (fun f => f) fun _ _ f => f
  obtain ⟨⟨v, s2⟩, e2, hv, k2⟩ := last_okR (hq1.rst s1.h) (by rw [lk_len]; have := ok.len; omega) (fun d hd => by have := docs_lk ok va d hd; exact ⟨by have := this.2.1; omega, this.1⟩) nm
  dsimp only at hv k2
  subst hv
  rw [last_lk ok] at e2
  exact ⟨s1, s2, _, _, _, k.trans k2, c1, fun K => callS_wide K rfl (bares_mpR xp 0 _ 22) e2⟩
theorem b_kept (h : Bo st sp xp ds) (nm : B) : ∃ (s1 s2 : St) (v u : AV) (l : List Int) (c : Int), Keeps st s2 (fun _ => False) ∧ l.length ≤ 8 ∧ Own s1 1 3 v (l.map inV) ∧ Own s2 1 3 u (l.map inV) ∧ (∀ {β : Type} (K : Kv β), callS (orc vE) 23 [.mp sp 0, .str nm] st K = K (.tup [v, .int .i64 c]) s1 ⟨[], .all st s1⟩) ∧
    ∀ {β : Type} (K : Kv β), callS (orc vE) 24 [.mp xp 0, .str nm] s1 K = K (.tup [u, .int .i64 c]) s2 ⟨[], .all s1 s2⟩ := by
  obtain ⟨ok, va, ⟨o, hp⟩, q, hq⟩ := h
  obtain ⟨v, s1, ho, hW, c1⟩ := call_kept (hp.sto st.h) ok.ok (by have := ok.len; omega) nm
  have k := hW.keeps
  have hq1 := hq.keep k (fun f => f) fun _ _ f => f
  have hk := kept_okR (hq1.rst s1.h) (by rw [lk_len]; have := ok.len; omega) (fun d hd => by have := (docs_lk ok va d hd).2.1; omega) nm
  rw [find_lk] at hk
  unfold docN' at ho c1
  rcases hk with ⟨hf, e2⟩ | ⟨i, d, u, s2, hf, hd, hn, e2, hu, hW2⟩
  · rw [hf] at ho c1
    exact ⟨s1, s1, v, .nils, [], 5, k, by simp, ho, Own.nils (by rw [hq1.1]; exact Nat.zero_le _) _ _, c1, fun K => callS_wide K rfl (bares_mpR xp 0 _ 24) e2⟩
  · rw [hf] at ho c1
    rw [List.getElem?_map] at hd
    cases hdd : ds[i]? with
    | none => rw [hdd] at hd; cases hd
    | some d0 =>
      rw [hdd] at hd
      have hd : lk d0 = d := Option.some.inj hd
      subst hd
      simp only [Option.bind_some, hdd] at ho c1
      have e1 : d0.kept.map noV = (d0.kept.map (·.1)).map inV := by rw [List.map_map]; rfl
      have e3 : (lk d0).vs.map noR = (d0.kept.map (·.1)).map inV := by
        show (d0.kept.map lkV).map noR = _
        rw [List.map_map, List.map_map]; rfl
      rw [e1] at ho
      rw [e3] at hu
      exact ⟨s1, s2, v, u, _, 0, k.trans hW2.keeps, by rw [List.length_map]; exact kept_len d0, ho, hu, c1, fun K => callS_wide K rfl (bares_mpR xp 0 _ 24) e2⟩
theorem call_intsP {x y : AV} {s1 s2 : St} {e1 e2 : TypeId} {a : List Int} (hx : Own s1 1 e1 x (a.map inV)) (hy : Own s2 1 e2 y (a.map inV)) {β : Type} (st : St) (K : Kv β) : callS (orc vE) 25 [x, y] st K = K (.bool true) st q0 := by
  obtain ⟨u, hu, hu2⟩ := own_strip hx
  obtain ⟨w, hw, hw2⟩ := own_strip hy
  refine callS_strip st K rfl (by simp only [List.map_cons, List.map_nil, hu, hw]) (by simp only [bares_cons, hu2.bare, hw2.bare]; rfl) ((ints_ok hu2 hw2).trans ?_)
  rw [decide_eq_true rfl]
theorem allStr_map : ∀ l : List B, allStr (l.map AV.str) = true
  | [] => rfl
  | _ :: l => allStr_map l
theorem all_ok {lo : Nat} {v : AV} {l : List B} (h : NmRow lo st v l) (hl : l.length ≤ 1000000) (s : B) : ∃ x fx, IsSl 1 x ((s :: l).map AV.str) ∧ ∀ {β : Type} (K : Kv β), planS (orc vE) (rowAnyP strTI 9 (.sl 1 [.str s] .shut) v) st K = K x st fx := by
  rcases h with ⟨rfl, rfl⟩ | ⟨k, rfl, h2, h3, h4, h5⟩
  · exact ⟨.sl 1 [.str s] .shut, _, IsSl.shut (Nat.le_of_ble_eq_true rfl), fun K => rfl⟩
  · refine ⟨.sl 1 (.str s :: l.map AV.str) .wide, ⟨[k], .kept⟩, IsSl.wide (by rw [List.length_cons, List.length_map]; omega), fun {β} K => ?_⟩
    · have hpos : Nat.blt 0 l.length = true := by
        rw [Nat.blt_eq]; exact List.length_pos_iff.2 h2
      have hroom : roomOk ([AV.str s].length + l.length) strTI = true := room_of (n := [AV.str s].length + l.length) (z := 1) (b := 16) (by rw [List.length_singleton]; omega) (by omega) (by omega)
      have h0 : rowAnyP strTI 9 (.sl 1 [.str s] .shut) (.gs k 1 l.length) = gsReadP strTI 9 (.sl 1 [.str s] .shut) k 1 l.length := rfl
      have hc : (roomOk ([AV.str s].length + l.length) strTI && (Nat.blt 0 l.length && (Nat.beq 1 strTI.size && (Nat.beq 1 strTI.size && Nat.beq strTI.size 1)))) = true := by
        rw [hroom, hpos]; rfl
      have hr : ((l.length.beq l.length && (Nat.beq 9 9 && Nat.beq 1 1)) && allStr (l.map AV.str)) = true := by
        rw [Nat.beq_refl, allStr_map]; rfl
      rw [h0]
      simp only [gsReadP, hc, planS, outS, planO, h5, hr, bindO_ok]
      rfl
theorem same_L1 (h : Bo st0 sp xp ds) {v11 v78 : AV} {A : List B} {l : List Int} {sx : St} (hA : IsSl 1 v11 (A.map AV.str)) (hx : Own sx 1 3 v78 (l.map inV)) (hl : l.length ≤ 8) {i : Nat} {nm : B} (hi : A[i]? = some nm) {st : St} (hk : Keeps st0 st (fun _ => False)) :
    Goes (loopO (w7_L1 (.mp sp 0) (.mp xp 0) v11 (i : Int) v78) ([.bool false, .int .i64 0], st)) (fun c => ∃ s, c = (0, [.bool false], s) ∧ Keeps st0 s (fun _ => False)) := by
  have hi2 : (A.map AV.str)[i]? = some (.str nm) := by rw [List.getElem?_map, hi]; rfl
  have ixA := fun (st : St) {β : Type} (K : AV → List Nat → Option β) => hA.idx hi2 st K
  have hln : ∀ {β : Type} (K : Nat → Option β), lenS v78 K = K l.length := fun K => by rw [own_len hx, List.length_map]
  refine Goes.loop (I := fun n c => ∃ (j : Nat) (m : List Int) (s : St), c = ([.bool false, .int .i64 (j : Int)], s) ∧ l.drop j = m ∧ Keeps st0 s (fun _ => False) ∧ n = m.length) ?_ l.length _ ⟨0, l, st, rfl, rfl, hk, rfl⟩
  rintro n c ⟨j, m, s, rfl, hd, hk, rfl⟩
  cases m with
  | nil =>
    have := List.drop_eq_nil_iff.1 hd
    have q : ¬ (j : Int) < (l.length : Int) := by omega
    simp only [w7_L1, unc_cons, asB_bool, asI_int, un0_nil, hln, ifB_decide, if_neg q]
    exact Goes.some ⟨s, rfl, hk⟩
  | cons u m =>
    obtain ⟨hg, hdr, hlt⟩ := drop_cons hd
    have q : (j : Int) < (l.length : Int) := by omega
    have iy : ∀ (st : St) {β : Type} (K : AV → List Nat → Option β), idxA 1 v78 (j : Int) st K = K (.ip [.int .i64 u]) [] := fun st {β} K => own_idx hx (show (l.map inV)[j]? = some (inV u) by rw [List.getElem?_map, hg]; rfl) st K
    have hw1 : IntKind.wrap .i64 ((j : Int) + 1) = ((j + 1 : Nat) : Int) := wrapA1 (by omega)
    obtain ⟨s1, a, k1, _, c1, c2⟩ := b_at (h.keeps hk) nm u
    simp only [w7_L1, unc_cons, asB_bool, asI_int, un0_nil, hln, ifB_decide, if_pos q, ixA, AV.cells, loadS_ip, tl1, asS_str, iy, c1, c2]
    cases a with
    | none =>
      simp only [atA, unT_tup, nthS_zero, nthS_one, asS_str, asI_int, beq_self_eq_true, Bool.not_true, ifB_false, bne_self_eq_false, bindO_ok, unc_cons, asB_bool, un0_nil, letV_eq, hw1]
      exact Goes.some ⟨m.length, Nat.lt_succ_self _, j + 1, m, s1, rfl, hdr, hk.trans k1, rfl⟩
    | some t =>
      simp only [atA, unT_tup, nthS_zero, nthS_one, asS_str, asI_int, beq_self_eq_true, Bool.not_true, ifB_false, bne_self_eq_false, bindO_ok, unc_cons, asB_bool, un0_nil, letV_eq, hw1]
      exact Goes.some ⟨m.length, Nat.lt_succ_self _, j + 1, m, s1, rfl, hdr, hk.trans k1, rfl⟩
theorem same_L2 (h : Bo st0 sp xp ds) {v11 : AV} {A : List B} (hA : IsSl 1 v11 (A.map AV.str)) (hAl : A.length ≤ 1000000) {st : St} (hk : Keeps st0 st (fun _ => False)) :
    Goes (loopO (w7_L2 (.mp sp 0) (.mp xp 0) v11) ([.bool false, .int .i64 0], st)) (fun c => ∃ s, c = (0, [.bool false], s) ∧ Keeps st0 s (fun _ => False)) := by
  have hln : ∀ {β : Type} (K : Nat → Option β), lenS v11 K = K A.length := fun K => by rw [hA.len, List.length_map]
  refine Goes.loop (I := fun n c => ∃ (i : Nat) (m : List B) (s : St), c = ([.bool false, .int .i64 (i : Int)], s) ∧ A.drop i = m ∧ Keeps st0 s (fun _ => False) ∧ n = m.length) ?_ A.length _ ⟨0, A, st, rfl, rfl, hk, rfl⟩
  rintro n c ⟨i, m, s, rfl, hd, hk, rfl⟩
  cases m with
  | nil =>
    have := List.drop_eq_nil_iff.1 hd
    have q : ¬ (i : Int) < (A.length : Int) := by omega
    simp only [w7_L2, unc_cons, asB_bool, asI_int, un0_nil, hln, ifB_decide, if_neg q]
    exact Goes.some ⟨s, rfl, hk⟩
  | cons nm m =>
    obtain ⟨hg, hdr, hlt⟩ := drop_cons hd
    have q : (i : Int) < (A.length : Int) := by omega
    have hi2 : (A.map AV.str)[i]? = some (.str nm) := by rw [List.getElem?_map, hg]; rfl
    have ixA := fun (st : St) {β : Type} (K : AV → List Nat → Option β) => hA.idx hi2 st K
    have hw1 : IntKind.wrap .i64 ((i : Int) + 1) = ((i + 1 : Nat) : Int) := wrapA1 (by omega)
    have h1 := h.keeps hk
    obtain ⟨s1, s2, a, b, c, k2, c1, c2⟩ := b_last h1 nm
    have h2 := h1.keeps k2
    obtain ⟨s3, s4, v, u, l, e, k4, hl, hv, hu, c3, c4⟩ := b_kept h2 nm
    have k04 := (hk.trans k2).trans k4
    have ci := fun {β : Type} (st : St) (K : Kv β) => call_intsP hv hu st K
    have nth2 : ∀ {β : Type} (a b c : AV) (K : AV → Option β), nthS [a, b, c] 2 K = K c := fun _ _ _ _ => rfl
    simp only [w7_L2, unc_cons, asB_bool, asI_int, un0_nil, hln, ifB_decide, if_pos q, ixA, AV.cells, loadS_ip, tl1, asS_str, c1, unT_tup, nthS_zero, nthS_one, nth2, c2, c3, c4, bne_self_eq_false, beq_self_eq_true, Bool.not_true, ifB_false, ci, bindO_ok]
    refine Goes.bind (same_L1 h hA hu hl hg k04) ?_
    rintro c ⟨s5, rfl, k5⟩
    simp only [unc_cons, asB_bool, un0_nil, sel2_zero, letV_eq, hw1]
    exact Goes.some ⟨m.length, Nat.lt_succ_self _, i + 1, m, s5, rfl, hdr, k5, rfl⟩
theorem same_L3 {lo : Nat} {v : AV} {l : List B} (hlo : st0.h ≤ lo) {st : St} (hv : NmRow lo st v l) (hl : l.length ≤ 1000000) (hk : Keeps st0 st (fun _ => False)) :
    Goes (loopO (w7_L3 v) ([.int .i64 0], st)) (fun c => ∃ s, c = (0, [], s) ∧ Keeps st0 s (fun _ => False)) := by
  rcases hv with ⟨rfl, rfl⟩ | ⟨k, rfl, h2, h3, h4, h5⟩
  · refine ⟨(0, [], st), loopO_inr ?_, st, rfl, hk⟩
    have q : ¬ (0 : Int) < ((0 : Nat) : Int) := by omega
    simp only [w7_L3, unc_cons, asI_int, un0_nil, lenS_nils, ifB_decide, if_neg q]
  · refine Goes.loop (I := fun n c => ∃ (i : Nat) (s : St) (cs : List AV), c = ([.int .i64 (i : Int)], s) ∧ s.get k = .ok (.row l.length 9 1 cs) ∧ cs.length = l.length ∧ s.ro ≤ k ∧ Keeps st0 s (fun _ => False) ∧ i ≤ l.length ∧ n = l.length - i) ?_ l.length _
      ⟨0, st, l.map AV.str, rfl, h5, List.length_map _, h4, hk, Nat.zero_le _, rfl⟩
    rintro n c ⟨i, s, cs, rfl, hr, hc, hro, hk, hi, rfl⟩
    by_cases hlt : i < l.length
    · have q : (i : Int) < (l.length : Int) := by omega
      have ix := fun {β : Type} (K : AV → List Nat → Option β) => idxA_gs hr hlt K
      have hw1 : IntKind.wrap .i64 ((i : Int) + 1) = ((i + 1 : Nat) : Int) := wrapA1 (by omega)
      have st1 := fun {β : Type} (K : Kv β) => storeS_gp (O := orc vE) (off := i * 1) (v := .str [63]) (u := .str [63]) (y := 1) (cs := [.str [63]]) hr hro rfl rfl rfl (by rw [hc]; omega) K
      simp only [w7_L3, unc_cons, asI_int, un0_nil, lenS_gs, ifB_decide, if_pos q, ix, st1, letV_eq, hw1]
      have hsl : (splice cs (i * 1) (AV.str [63]).cells).length = l.length := by
        rw [← hc]
        show (splice cs (i * 1) [AV.str [63]]).length = cs.length
        simp only [splice, List.length_append, List.length_take, List.length_drop, List.length_singleton]
        omega
      exact Goes.some ⟨l.length - (i + 1), by omega, i + 1, _, _, rfl, St.get_put_same (St.get_ok.1 hr).1, hsl, hro, hk.fresh (Keeps.put rfl) (Nat.le_trans hlo h3), hlt, rfl⟩
    · have q : ¬ (i : Int) < (l.length : Int) := by omega
      simp only [w7_L3, unc_cons, asI_int, un0_nil, lenS_gs, ifB_decide, if_neg q]
      exact Goes.some ⟨s, rfl, hk⟩
theorem same_ok (h : Bo st sp xp ds) (nm : B) : Goes ((orc vE).wide 7 [.mp sp 0, .mp xp 0, .str nm] st) (fun r => r.1 = .bool true ∧ Keeps st r.2 (fun _ => False)) := by
  have h0 := h
  obtain ⟨ok, va, ⟨o, hp⟩, q, hq⟩ := h
  have hlen := ok.len
  obtain ⟨v, s1, hn, k1, c1⟩ := call_namesP (hp.sto st.h) (by omega)
  have hq1 := hq.keep k1 (fun f => f) fun _ _ f => f
  obtain ⟨y, s2, e2, hy, hW⟩ := names_okR (hq1.rst s1.h) (by rw [lk_len]; omega)
  have c2 := fun {β : Type} (K : Kv β) => callS_wide K rfl (bares_mpR xp 0 _ 20) e2
  have hn2 := hn.keeps hW.keeps
  have e3 : (ds.map lk).map nmR = (ds.map Dc.nm).map AV.str := by rw [List.map_map, List.map_map]; rfl
  rw [e3] at hy
  have hl : (ds.map Dc.nm).length ≤ 1000000 := by rw [List.length_map]; omega
  obtain ⟨f3, c3⟩ := call_textsP hn2 hy hl
  obtain ⟨x, f4, hx, c4⟩ := all_ok hn2 hl nm
  refine Goes.wide (Goes.step (w7_eq _ _ _ _) ?_)
  simp only [w7, asS_str, c1, c2, c3, asB_bool, Bool.not_true, ifB_false, c4]
  have k02 := k1.trans hW.keeps
  refine Goes.bind (same_L2 (h0.keeps k02) hx (by rw [List.length_cons]; rw [List.length_map]; omega) (Keeps.refl _ _)) ?_
  rintro c ⟨s5, rfl, k5⟩
  simp only [unc_cons, asB_bool, un0_nil, sel2_zero]
  refine Goes.bind (same_L3 (Nat.le_refl _) (hn2.keeps k5) hl (k02.trans k5)) ?_
  rintro c ⟨s6, rfl, k6⟩
  simp only [un0_nil]
  exact Goes.some ⟨rfl, k6⟩
end
end Go.Proofs.YtkknkhniadiapaaDoor.Vm
namespace Go.Proofs.YtkknkhniadiapaaDoor.Vm
open Go Go.VM Go.Proofs
noncomputable def g3_L1 (x0 : AV) (v13 : AV) (n17 : Int) : Car → Option (Car ⊕ Nat × Car) := fun c66 => unc (Prod.fst c66) fun v67 l68 => asI .i64 v67 fun n69 => un0 l68 (lenS x0 fun k70 => ifB (decide (n69 < (↑k70 : Int))) (idxA 5 x0 n69 (Prod.snd c66) fun v71 _x => fldA 1 v71 fun v73 => loadS 1 false v73 (Prod.snd c66) fun v74 _x => asS v74 fun l76 => idxA 5 x0 n69 (Prod.snd c66) fun v77 _x => fldA 2 v77 fun v79 => loadS 1 false v79 (Prod.snd c66) fun v80 _x => asI .i64 v80 fun n82 => idxA 5 x0 n69 (Prod.snd c66) fun v83 _x => fldA 3 v83 fun v85 => loadS 1 false v85 (Prod.snd c66) fun v86 _x => asS v86 fun l88 => callS (orc vE) 9 [v13, AV.str l76, AV.int .i64 n82, AV.str l88] (Prod.snd c66) fun v89 st90 _x => asI .i64 v89 fun _x => idxA 5 x0 n69 st90 fun v93 l94 => fldA 1 v93 fun v95 => loadS 1 false v95 st90 fun v96 l97 => asS v96 fun l98 => idxA 5 x0 n69 st90 fun v99 l100 => fldA 2 v99 fun v101 => loadS 1 false v101 st90 fun v102 l103 => asI .i64 v102 fun n104 => idxA 5 x0 n69 st90 fun v105 _x => fldA 4 v105 fun v107 => loadS 1 false v107 st90 fun v108 _x => callS (orc vE) 11 [v108] st90 fun v110 st111 x112 => chk (apart (Fx.mk l103 Did.kept) x112 && (apart (Fx.mk [] Did.kept) x112 && (apart (Fx.mk l100 Did.kept) x112 && (apart (Fx.mk [] Did.kept) x112 && (apart (Fx.mk [] Did.kept) x112 && (apart (Fx.mk l97 Did.kept) x112 && (apart (Fx.mk [] Did.kept) x112 && (apart (Fx.mk l94 Did.kept) x112 && (apart (Fx.mk [] Did.kept) x112 && (apart (Fx.mk [] Did.kept) x112 && (apart (Fx.mk [] Did.kept) x112 && true))))))))))) (callS (orc vE) 10 [v13, AV.str l98, AV.int .i64 n104, v110] st111 fun v113 st114 _x => asI .i64 v113 fun _x => idxA 5 x0 n17 st114 fun v117 _x => fldA 1 v117 fun v119 => loadS 1 false v119 st114 fun v120 _x => asS v120 fun l122 => callS (orc vE) 12 [v13, AV.str l122] st114 fun v123 st124 _x => asI .i64 v123 fun _x => letV (IntKind.wrap .i64 (n69 + 1)) fun n127 => some (Sum.inl ([AV.int .i64 n127], st124)))) (some (Sum.inr (0, [], Prod.snd c66))))
noncomputable def g3_L2 (x0 : AV) (st5 : St) : Car → Option (Car ⊕ Nat × Car) := fun c9 => unc (Prod.fst c9) fun v10 l11 => asB v10 fun b12 => unc l11 fun v13 l14 => unc l14 fun v15 l16 => asI .i64 v15 fun n17 => un0 l16 (lenS x0 fun k18 => ifB (decide (n17 < (↑k18 : Int))) (bindO (idxA 5 x0 n17 (Prod.snd c9) fun v19 _x => loadS 5 true v19 (Prod.snd c9) fun v21 _x => un_bsisv v21 fun n27 l30 n33 l36 v37 => (callS (orc vE) 6 [v13, AV.mp (St.h st5) 0, AV.agg [AV.int .u8 n27, AV.str l30, AV.int .i64 n33, AV.str l36, v37]] (Prod.snd c9) fun v39 st40 _x => asB v39 fun b42 => ifB (!b42) (some ([AV.bool true], st40)) (idxA 5 x0 n17 st40 fun v43 _x => fldA 1 v43 fun v45 => loadS 1 false v45 st40 fun v46 _x => asS v46 fun l48 => callS (orc vE) 7 [v13, AV.mp (St.h st5) 0, AV.str l48] st40 fun v49 st50 _x => asB v49 fun b52 => some ([AV.bool !b52], st50)))) fun c53 => unc (Prod.fst c53) fun v54 l55 => asB v54 fun b56 => un0 l55 (ifB b56 (some (Sum.inr (1, [AV.bool false, v13], Prod.snd c53))) (idxA 5 x0 n17 (Prod.snd c53) fun v57 _x => fldA 0 v57 fun v59 => loadS 1 false v59 (Prod.snd c53) fun v60 _x => asI .u8 v60 fun n62 => bindO (ifB (n62 == 4) (callS (orc vE) 8 [v13] (Prod.snd c53) fun v63 st64 _x => bindO (loopO (g3_L1 x0 v13 n17) ([AV.int .i64 0], st64)) fun c128 => un0 (Prod.fst (Prod.snd c128)) (some ([v63], Prod.snd (Prod.snd c128)))) (some ([v13], Prod.snd c53))) fun c129 => unc (Prod.fst c129) fun v130 l131 => un0 l131 (letV (IntKind.wrap .i64 (n17 + 1)) fun n132 => some (Sum.inl ([AV.bool b12, v130, AV.int .i64 n132], Prod.snd c129)))))) (some (Sum.inr (0, [AV.bool b12, v13], Prod.snd c9))))
noncomputable def g3 : AV → Option AV := fun x0 => callS (orc vE) 4 [x0] (St.mk 0 0 Tr.leaf) fun v0 st1 _x => asB v0 fun b3 => ifB b3 (some (AV.bool true)) (callS (orc vE) 5 [] st1 fun v4 st5 _x => letSt (St.add st5 (VM.Obj.cells 29 [AV.nils])) fun st8 => bindO (loopO (g3_L2 x0 st5) ([AV.bool false, v4, AV.int .i64 0], st8)) fun c133 => unc (Prod.fst (Prod.snd c133)) fun v134 l135 => asB v134 fun b136 => unc l135 fun v137 l138 => un0 l138 (sel2 (Prod.fst c133) (callS (orc vE) 7 [v137, AV.mp (St.h st5) 0, AV.str []] (Prod.snd (Prod.snd c133)) fun v139 _x _x_1 => asB v139 fun b142 => some (AV.bool b142)) fun _x => some (AV.bool b136)))
theorem g3_eq (x0 : AV) : bareS vE 3 [x0] = g3 x0 := by kernel_rfl
end Go.Proofs.YtkknkhniadiapaaDoor.Vm
namespace Go.Proofs.YtkknkhniadiapaaDoor.Vm
open Go Go.VM Go.Proofs Go.Store Go.Lib Go.Lex T
def Jo (st : St) (sp cp xp : Nat) (ds : List Dc) : Prop := ∃ o ds1 oc q, PO st sp o ds1 ∧ DsOk ds1 ∧ PO st cp oc ds ∧ QO st xp q (ds.map lk) ∧ ∀ j, Own1 sp o j → ¬ Own1 cp oc j
section
variable {st st' : St} {sp cp xp : Nat} {ds : List Dc}
theorem jo_step {o oc q o' : Option Nat} {ds1 ds2 : List Dc} (hp : PO st sp o ds1) (hc : PO st cp oc ds) (hq : QO st xp q (ds.map lk)) (ha : ∀ j, Own1 sp o j → ¬ Own1 cp oc j) (h1 : PO st' sp o' ds2) (ok : DsOk ds2) (hf : After st st' sp o o') : Jo st' sp cp xp ds := by
  refine ⟨o', ds2, oc, q, h1, ok, hc.keep1 hf.keeps fun j hj hk => ha j hk hj, hq.past hp hf, ?_⟩
  rintro j (rfl | hj) hk
  · exact ha _ (.inl rfl) hk
  · rcases hf.own j hj with h | h
    · exact ha _ (.inr h) hk
    · have := hc.lt j hk; omega
theorem jo_open (h : Jo st sp cp xp ds) (nm : B) (no : Int) (tx : B) (ht : tx.length ≤ 1000000) : ∃ st' e, Jo st' sp cp xp ds ∧ ∀ {β : Type} (K : Kv β), callS (orc vE) 9 [.mp sp 0, .str nm, .int .i64 no, .str tx] st K = K (.int .i64 e) st' ⟨[], .all st st'⟩ := by
  obtain ⟨o, ds1, oc, q, hp, ok, hc, hq, ha⟩ := h
  obtain ⟨s1, o1, ds2, hp1, ha1, ok1, _, _, _, c1⟩ := p_open hp ok nm no tx ht
  exact ⟨s1, _, jo_step hp hc hq ha hp1 ok1 ha1, c1⟩
theorem jo_change (h : Jo st sp cp xp ds) (nm : B) (no : Int) {x : AV} {cs : List Chg} (hx : IsSl 6 x (cs.map chgV)) (hcl : ∀ c ∈ cs, c.text.length ≤ 1000000) (hlen : cs.length ≤ 1000000) : ∃ st' e, Jo st' sp cp xp ds ∧ ∀ {β : Type} (K : Kv β), callS (orc vE) 10 [.mp sp 0, .str nm, .int .i64 no, x] st K = K (.int .i64 e) st' ⟨[], .all st st'⟩ := by
  obtain ⟨o, ds1, oc, q, hp, ok, hc, hq, ha⟩ := h
  obtain ⟨s1, o1, ds2, e, hp1, ha1, ok1, _, c1⟩ := p_change hp ok nm no hx hcl hlen
  exact ⟨s1, _, jo_step hp hc hq ha hp1 ok1 ha1, c1⟩
theorem jo_close (h : Jo st sp cp xp ds) (nm : B) : ∃ st' e, Jo st' sp cp xp ds ∧ ∀ {β : Type} (K : Kv β), callS (orc vE) 12 [.mp sp 0, .str nm] st K = K (.int .i64 e) st' ⟨[], .all st st'⟩ := by
  obtain ⟨o, ds1, oc, q, hp, ok, hc, hq, ha⟩ := h
  obtain ⟨s1, o1, ds2, hp1, ha1, ok1, _, _, c1⟩ := p_close hp ok nm
  exact ⟨s1, _, jo_step hp hc hq ha hp1 ok1 ha1, c1⟩
theorem jo_copy (h : Bo st sp xp ds) : ∃ st', Jo st' sp (st.h + 1) xp ds ∧ ∀ {β : Type} (K : Kv β), callS (orc vE) 8 [.mp sp 0] st K = K (.mp (st.h + 1) 0) st' ⟨[], .all st st'⟩ := by
  obtain ⟨ok, va, ⟨o, hp⟩, q, hq⟩ := h
  obtain ⟨s1, hs, k, _, c⟩ := copy_okS (hp.sto st.h) (by have := ok.len; omega)
  obtain ⟨oc, hc, hoc⟩ := hs.po
  refine ⟨s1, ⟨o, ds, oc, q, hp.keep k (fun f => f) (fun _ _ f => f), ok, hc, hq.keep k (fun f => f) (fun _ _ f => f), fun j hj hk => ?_⟩, c⟩
  have := hp.lt j hj
  rcases hk with rfl | hk
  · omega
  · have := hoc j hk; omega
theorem tk1s {β : Type} (v : AV) (l : List AV) (K : AV → Option β) : bindO (takeO 1 false (v :: l)) K = K v := rfl
variable {x : AV} {es : List AV} {ss : List Stp}
theorem stp_at (hx : IsSl 5 x es) (hs : StpsV ss es) {i : Nat} {s : Stp} (hi : ss[i]? = some s) : ∃ v, IsSl 6 v (s.cs.map chgV) ∧ ∀ (st : St) {β : Type} (K : AV → List Nat → Option β), idxA 5 x (i : Int) st K = K (.ip [.int .u8 s.kind, .str s.name, .int .i64 s.no, .str s.text, v]) [] := by
  obtain ⟨e, he, v, hv, rfl⟩ := stps_at hs hi
  exact ⟨v, hv, fun st β K => hx.idx he st K⟩
theorem plays_L1 (hx : IsSl 5 x es) (hs : StpsV ss es) (hb : ∀ s ∈ ss, s.text.length ≤ 3000 ∧ s.name.length ≤ 3000 ∧ s.cs.length < 3000 ∧ ∀ c ∈ s.cs, c.text.length < 3000) (hl : ss.length ≤ 60) {n : Nat} {s0 : Stp} (hn : ss[n]? = some s0) (h : Jo st sp cp xp ds) :
    Goes (loopO (g3_L1 x (.mp sp 0) (n : Int)) ([.int .i64 0], st)) (fun c => ∃ s, c = (0, [], s) ∧ Jo s sp cp xp ds) := by
  have hlen : ∀ {β : Type} (K : Nat → Option β), lenS x K = K ss.length := fun K => by rw [hx.len, stps_len hs]
  obtain ⟨v0, hv0, ix0⟩ := stp_at hx hs hn
  have apq : ∀ l, apart ⟨l, .kept⟩ q0 = true := fun _ => rfl
  refine Goes.loop (I := fun n c => ∃ (i : Nat) (m : List Stp) (s : St), c = ([.int .i64 (i : Int)], s) ∧ ss.drop i = m ∧ Jo s sp cp xp ds ∧ n = m.length) ?_ ss.length _ ⟨0, ss, st, rfl, rfl, h, rfl⟩
  rintro n c ⟨i, m, s, rfl, hd, hj, rfl⟩
  cases m with
  | nil =>
    have := List.drop_eq_nil_iff.1 hd
    have q : ¬ (i : Int) < (ss.length : Int) := by omega
    simp only [g3_L1, unc_cons, asI_int, un0_nil, hlen, ifB_decide, if_neg q]
    exact Goes.some ⟨s, rfl, hj⟩
  | cons u m =>
    obtain ⟨hg, hdr, hlt⟩ := drop_cons hd
    have q : (i : Int) < (ss.length : Int) := by omega
    obtain ⟨b1, b2, b3, b4⟩ := hb u (List.mem_of_getElem? hg)
    obtain ⟨v, hv, ix⟩ := stp_at hx hs hg
    have hw1 : IntKind.wrap .i64 ((i : Int) + 1) = ((i + 1 : Nat) : Int) := wrapA1 (by omega)
    obtain ⟨y, hy, cg⟩ := call_given hv (by omega)
    obtain ⟨s1, e1, j1, c1⟩ := jo_open hj u.name u.no u.text (by omega)
    obtain ⟨s2, e2, j2, c2⟩ := jo_change j1 u.name u.no hy (fun c hc => by have := b4 c hc; omega) (by omega)
    obtain ⟨s3, e3, j3, c3⟩ := jo_close j2 s0.name
    simp only [g3_L1, unc_cons, asI_int, un0_nil, hlen, ifB_decide, if_pos q, ix, fldA_ip, List.drop_succ_cons, List.drop_zero, loadS_ip, tk1s, asS_str, c1, cg, apq, Bool.and_self, chk_true, c2, ix0, c3, letV_eq, hw1]
    exact Goes.some ⟨m.length, Nat.lt_succ_self _, i + 1, m, s3, rfl, hdr, j3, rfl⟩
theorem plays_L2 (hx : IsSl 5 x es) (hs : StpsV ss es) (hb : ∀ s ∈ ss, s.text.length ≤ 3000 ∧ s.name.length ≤ 3000 ∧ s.cs.length < 3000 ∧ ∀ c ∈ s.cs, c.text.length < 3000) (hl : ss.length ≤ 60) {s5 : St} {st : St} {ds : List Dc} (h : Bo st sp s5.h ds) :
    Goes (loopO (g3_L2 x s5) ([.bool false, .mp sp 0, .int .i64 0], st)) (fun c => ∃ sp s ds, c = (0, [.bool false, .mp sp 0], s) ∧ Bo s sp s5.h ds) := by
  have hlen : ∀ {β : Type} (K : Nat → Option β), lenS x K = K ss.length := fun K => by rw [hx.len, stps_len hs]
  refine Goes.loop (I := fun n c => ∃ (i sp : Nat) (m : List Stp) (s : St) (ds : List Dc), c = ([.bool false, .mp sp 0, .int .i64 (i : Int)], s) ∧ ss.drop i = m ∧ Bo s sp s5.h ds ∧ n = m.length) ?_ ss.length _ ⟨0, sp, ss, st, ds, rfl, rfl, h, rfl⟩
  rintro n c ⟨i, sp, m, s, ds, rfl, hd, hj, rfl⟩
  cases m with
  | nil =>
    have := List.drop_eq_nil_iff.1 hd
    have q : ¬ (i : Int) < (ss.length : Int) := by omega
    simp only [g3_L2, unc_cons, asB_bool, asI_int, un0_nil, hlen, ifB_decide, if_neg q]
    exact Goes.some ⟨sp, s, ds, rfl, hj⟩
  | cons u m =>
    obtain ⟨hg, hdr, hlt⟩ := drop_cons hd
    have q : (i : Int) < (ss.length : Int) := by omega
    obtain ⟨b1, b2, b3, b4⟩ := hb u (List.mem_of_getElem? hg)
    obtain ⟨v, hv, ix⟩ := stp_at hx hs hg
    have hw1 : IntKind.wrap .i64 ((i : Int) + 1) = ((i + 1 : Nat) : Int) := wrapA1 (by omega)
    have tk5 : ∀ (a b c d e : AV), takeO 5 true [a, b, c, d, e] = some (.agg [a, b, c, d, e]) := fun _ _ _ _ _ => rfl
    obtain ⟨⟨r1, s1⟩, e1, hr1, ds1, hb1⟩ := one_ok hj (e := .agg [.int .u8 u.kind, .str u.name, .int .i64 u.no, .str u.text, v]) ⟨v, hv, rfl⟩ b1 b3 b4
    dsimp only at hr1 hb1
    subst hr1
    have c1 := fun {β : Type} (K : Kv β) => callS_wide K rfl (bares_mpR sp 0 _ 6) e1
    obtain ⟨⟨r2, s2⟩, e2, hr2, k2⟩ := same_ok hb1 u.name
    dsimp only at hr2 k2
    subst hr2
    have c2 := fun {β : Type} (K : Kv β) => callS_wide K rfl (bares_mpR sp 0 _ 7) e2
    have hb2 := hb1.keeps k2
    simp only [g3_L2, unc_cons, asB_bool, asI_int, un0_nil, hlen, ifB_decide, if_pos q, ix, fldA_ip, List.drop_succ_cons, List.drop_zero, loadS_ip, tk5, tk1s, bindO_ok, unA_agg, asS_str, c1, Bool.not_true, ifB_false, c2]
    refine Goes.bind (R := fun c => ∃ sp s, c = ([.mp sp 0], s) ∧ Bo s sp s5.h ds1) ?_ ?_
    · simp only [ifB_beq]
      by_cases k4 : u.kind = 4
      · simp only [if_pos k4]
        obtain ⟨s3, j3, c3⟩ := jo_copy hb2
        simp only [c3]
        refine Goes.bind (plays_L1 hx hs hb hl hg j3) ?_
        rintro c ⟨s4, rfl, o, ds2, oc, q4, hp, ok, hc, hq, ha⟩
        simp only [un0_nil]
        exact Goes.some ⟨_, s4, rfl, hb2.1, hb2.2.1, ⟨oc, hc⟩, q4, hq⟩
      · simp only [if_neg k4]
        exact Goes.some ⟨sp, s2, rfl, hb2⟩
    · rintro c ⟨sp', s3, rfl, hb3⟩
      simp only [unc_cons, un0_nil, letV_eq, hw1]
      exact Goes.some ⟨m.length, Nat.lt_succ_self _, i + 1, sp', m, s3, ds1, rfl, hdr, hb3, rfl⟩
theorem law_plays (hx : IsSl 5 x es) (hs : StpsV ss es) : (orc vE).bare 3 [x] = some (.bool true) := by
  refine Goes.eq (Goes.bare rfl (Goes.step (g3_eq _) ?_))
  have cl := fun {β : Type} (st : St) (K : Kv β) => callS_bare (f := 4) st K rfl (by rw [List.map_cons, List.map_nil, hx.strip]) (by rw [bares_cons, hx.bare]; rfl) (large_ok hx hs)
  simp only [g3, cl, asB_bool]
  cases hlg : largeS ss with
  | true =>
    simp only [ifB_true]
    exact Goes.some rfl
  | false =>
    obtain ⟨hl, hb⟩ := largeS_small hlg
    simp only [ifB_false]
    obtain ⟨s5, e5, hs5, k5, hlt⟩ := new_store (St.mk 0 0 Tr.leaf) rfl
    have c5 := fun {β : Type} (K : Kv β) => callS_wide (args := []) K rfl rfl e5
    simp only [c5, letSt_eq]
    obtain ⟨o, hp, _⟩ := hs5.po
    have ka : Keeps s5 (s5.add (.cells RST [.nils])) (fun _ => False) := Keeps.add s5 _ _
    have hq : QO (s5.add (.cells RST [.nils])) s5.h none [] := ⟨hp.1, rfl, St.get_add_new⟩
    have hB : Bo (s5.add (.cells RST [.nils])) 0 s5.h [] := ⟨⟨(fun d hd => by cases hd), (by simp), List.Pairwise.nil⟩, (fun d hd => by cases hd), ⟨o, hp.keep ka (fun f => f) fun _ _ f => f⟩, none, hq⟩
    refine Goes.bind (plays_L2 hx hs hb hl hB) ?_
    rintro c ⟨sp, s, ds, rfl, hb2⟩
    obtain ⟨⟨r2, s2⟩, e2, hr2, k2⟩ := same_ok hb2 []
    dsimp only at hr2
    subst hr2
    have c2 := fun {β : Type} (K : Kv β) => callS_wide K rfl (bares_mpR sp 0 _ 7) e2
    simp only [unc_cons, asB_bool, un0_nil, sel2_zero, c2]
    exact Goes.some rfl
end
end Go.Proofs.YtkknkhniadiapaaDoor.Vm
