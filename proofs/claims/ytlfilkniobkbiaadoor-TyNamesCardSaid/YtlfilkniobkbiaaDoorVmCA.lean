/-
  A part of the proof.
-/
import Derived.Test.YtlfilkniobkbiaaDoorVmBJ
set_option maxRecDepth 1000000
set_option linter.unusedSimpArgs false
set_option maxHeartbeats 0
/- Fresh, Instance, General, as far as the examples ask. -/
namespace Go.Proofs.YtlfilkniobkbiaaDoor.Vm
open Go Go.VM Go.Proofs Go.Ty
/-- The name of a fresh variable. -/
def frN (k : Nat) : Tx := 39 :: digits k
theorem digits_len {k : Nat} (h : k < 1000) : (digits k).length ≤ 3 := digF_len _ _ h
theorem fresh_ok {st : St} {T M : Nat} {B : Bnd} {k : Nat} (w : Tb st T M B (k : Int)) (hk : k < 99) (hro : st.ro ≤ st.h) :
    Goes ((orc vE).wide 29 [.mp T 0] st) (fun r => r.1 = .agg [.str (frN (k + 1)), .nils] ∧ Tb r.2 T M B ((k + 1 : Nat) : Int) ∧ Keeps st r.2 (· = T)) := by
  refine Goes.wide (Goes.step (w29_eq _ _) ?_)
  simp only [w29, nil_ptrT, ifB_false, notNil_mp, chk_true, fldA_mp, Nat.zero_add]
  refine Goes.xalloc (Wx.start hro (· = T)) fun s1 e1 w1 k1 => ?_
  have u1 := w.keep k1 (fun f => f) (fun f => f)
  have hT1 := u1.t
  have hTlt : T < st.h := (St.get_ok.1 w.t).1
  simp only [loadS_mp hT1, List.drop_succ_cons, List.drop_zero, takeO_one, bindO_ok, asI_int, letV_eq, wrapA1 (show k + 1 ≤ 9223372036854775807 by omega)]
  rw [storeS_at (cs := [.int .i64 ((k + 1 : Nat) : Int)]) (z := 1) hT1 rfl (by simp) u1.rt]
  have hsp : splice [AV.mm M, .int .i64 (k : Int)] 1 [.int .i64 ((k + 1 : Nat) : Int)] = [.mm M, .int .i64 ((k + 1 : Nat) : Int)] := rfl
  rw [hsp]
  have k2 : Keeps s1 (s1.put T (.cells TTb [.mm M, .int .i64 ((k + 1 : Nat) : Int)])) (· = T) := Keeps.put rfl
  have g2 : (s1.put T (.cells TTb [.mm M, .int .i64 ((k + 1 : Nat) : Int)])).get T = .ok (.cells TTb [.mm M, .int .i64 ((k + 1 : Nat) : Int)]) := St.get_put_same (St.get_ok.1 hT1).1
  obtain ⟨es, m1, m2⟩ := u1.m
  have hMT : M ≠ T := fun e => by rw [e, hT1] at m1; cases m1
  have gm2 := k2.old _ _ hMT m1
  have r2 : (s1.put T (.cells TTb [.mm M, .int .i64 ((k + 1 : Nat) : Int)])).ro ≤ T := u1.rt
  have rm2 : (s1.put T (.cells TTb [.mm M, .int .i64 ((k + 1 : Nat) : Int)])).ro ≤ M := u1.rm
  have w2 : Wx (· = T) st (s1.put T (.cells TTb [.mm M, .int .i64 ((k + 1 : Nat) : Int)])) [(st.h, TTy, z2)] :=
    ⟨w1.w.keeps k2 (fun q hq e => by
      simp only [List.mem_cons, List.mem_nil_iff, or_false] at hq
      subst hq
      have : st.h = T := e
      omega), w1.k.join k2 (fun j hj => .inl hj), w1.ge⟩
  generalize s1.put T (.cells TTb [.mm M, .int .i64 ((k + 1 : Nat) : Int)]) = s2 at *
  have hdl := digits_len (k := k + 1) (by omega)
  have hit := fun {γ : Type} (K : Kv γ) => itoa_ok (k := k + 1) (by omega) s2 K
  simp only [loadS_mp g2, List.drop_succ_cons, List.drop_zero, takeO_one, bindO_ok, asI_int, hit, asS_str, Nat.ble_eq_true_of_le (show 1 + (digits (k + 1)).length ≤ 9223372036854775807 by omega), chk_true]
  refine Goes.xst [] w2 fun s3 e3 w3 k3 => ?_
  refine Goes.vload List.mem_cons_self w3.w rfl ?_
  simp only [unA_agg, unc_cons, asS_str, un0_nil]
  refine Goes.some ⟨rfl, ⟨⟨k3.old _ _ (by omega) g2, es, k3.old _ _ (fun e => ?_) gm2, m2⟩, by rw [k3.ro]; exact r2, by rw [k3.ro]; exact rm2⟩, w3.k⟩
  have := w2.w.get List.mem_cons_self
  rw [← e, gm2] at this; cases this
theorem inst_one {st : St} {T M : Nat} {B : Bnd} (w : Tb st T M B 0) (hro : st.ro ≤ st.h) {n : Tx} (hn : varB n = true) :
    Goes ((orc vE).wide 24 [.mp T 0, .agg [.sl 1 [.str n, .str n] .shut, .str n, .nils]] st) (fun r => ∃ x, r.1 = .tup [.agg [.str (frN 1), x], .int .i64 0] ∧ CT (vr (frN 1)) x ∧ (∃ k : Int, Tb r.2 T M B k) ∧ Keeps st r.2 (· = T)) := by
  have hvx : CT (vr n) .nils := ⟨[], IsSl.nils, IsTs.nil⟩
  have hvs : IsSl 1 (.sl 1 [.str n, .str n] .shut) [.str n, .str n] := IsSl.shut (Nat.le_of_ble_eq_true rfl)
  have hmay : mayT (vr n) = true := by
    unfold mayT
    rw [show szT (vr n) = 1 from rfl, form_vr hn]; rfl
  have cm := fun {γ : Type} (st : St) (K : Kv γ) => callT1 hvx.b rfl (may_prog hvx.isT) st K
  have cm : ∀ {γ : Type} (st : St) (K : Kv γ), callS (orc vE) 10 [.agg [.str n, .nils]] st K = K (.bool (mayT (vr n))) st q0 := cm
  refine Goes.wide (Goes.step (w24_eq _ _ _) ?_)
  simp only [w24, unA_agg, unc_cons, asS_str, un0_nil, asOne_sl, asOne_nils, fit1_shut, fit1_nils, nil_ptrT, ifB_false, cm, hmay, asB_bool, Bool.not_true, hvs.len]
  refine Goes.xalloc (Wx.start hro (· = T)) fun s1 e1 w1 k1 => Goes.lets ?_
  have hTlt : T < st.h := (St.get_ok.1 w.t).1
  have u1 := w.keep k1 (fun f => f) (fun f => f)
  have k2 : Keeps s1 (s1.add (.map [])) (fun _ => False) := Keeps.add _ _ _
  have gF2 : (s1.add (.map [])).get s1.h = .ok (.map []) := St.get_add_new
  have w2 : Wx (· = T) st (s1.add (.map [])) [(st.h, TTy, z2)] := ⟨w1.w.keeps k2 (fun _ _ f => f), w1.k.join k2 (fun j hj => hj.elim), w1.ge⟩
  have rF2 : (s1.add (.map [])).ro ≤ s1.h := w1.w.ro
  have u2 := u1.keep k2 (fun f => f) (fun f => f)
  generalize s1.add (.map []) = s2 at *
  refine Goes.xalloc w2 fun s3 e3 w3 k3 => Goes.xst [] w3 fun s4 e4 w4 k4 => ?_
  have hFh : s1.h < s2.h := (St.get_ok.1 gF2).1
  have hTh2 : T < s2.h := (St.get_ok.1 u2.t).1
  have hMh2 : M < s2.h := by obtain ⟨es, h1, _⟩ := u2.m; exact (St.get_ok.1 h1).1
  have u4 := (u2.keep k3 (fun f => f) (fun f => f)).keep k4 (by omega) (by omega)
  have gF4 : s4.get s1.h = .ok (.map []) := k4.old _ _ (by omega) (k3.old _ _ (fun f => f) gF2)
  have rF4 : s4.ro ≤ s1.h := by rw [k4.ro, k3.ro]; exact rF2
  have gC4 : s4.get s2.h = .ok (.cells TMp [.mm s1.h]) := w4.w.get List.mem_cons_self
  have hMF : M ≠ s1.h := by
    obtain ⟨es, h1, _⟩ := u1.m
    exact Nat.ne_of_lt (St.get_ok.1 h1).1
  have hTF : T ≠ s1.h := Nat.ne_of_lt (St.get_ok.1 u1.t).1
  have kk4 : Keeps st s4 (· = T) := w4.k
  -- the variables' fresh ones
  refine Goes.bind (R := fun c => ∃ s, c = (0, [], s) ∧ (∃ k : Int, Tb s T M B k) ∧ Keeps st s (· = T) ∧ s.ro ≤ s.h ∧ s.get s2.h = .ok (.cells TMp [.mm s1.h]) ∧ s.get st.h = .ok (.cells TTy z2) ∧ (∃ es, s.get s1.h = .ok (.map es) ∧ IsB [(n, vr (frN 1))] es))
    (Goes.upto (n := 2) (I := fun i c => ∃ s, c = ([.int .i64 (i : Int)], s) ∧ Tb s T M B ((i : Nat) : Int) ∧ Keeps st s (· = T) ∧ s.ro ≤ s.h ∧ s.get s2.h = .ok (.cells TMp [.mm s1.h]) ∧ s.get st.h = .ok (.cells TTy z2) ∧ s.ro ≤ s1.h ∧ ∃ es, s.get s1.h = .ok (.map es) ∧ IsB (if i = 0 then [] else [(n, vr (frN 1))]) es) ?_ ?_ 2 0 _ (by omega) ⟨s4, rfl, u4, kk4, w4.w.ro, gC4, w4.w.get (List.mem_cons_of_mem _ List.mem_cons_self), rF4, [], gF4, rfl⟩) ?_
  · rintro i c hi ⟨s, rfl, u, kk, ro, gC, gR, rF, es, gF, hF⟩
    have hq : decide ((i : Int) < (([AV.str n, .str n].length : Nat) : Int)) = true := decide_eq_true (show (i : Int) < 2 by omega)
    have hv : [AV.str n, AV.str n][i]? = some (.str n) := by
      have : i = 0 ∨ i = 1 := by omega
      rcases this with rfl | rfl <;> rfl
    simp only [w24_L1, unc_cons, asI_int, un0_nil, hq, ifB_true, hvs.idx hv, AV.cells, loadS_ip, List.drop_zero, takeO_one, bindO_ok, asS_str]
    refine Goes.callW (fresh_ok u (by omega) ro) rfl rfl ?_
    rintro v s5 ⟨rfl, u5, k5⟩
    have ro5 : s5.ro ≤ s5.h := by rw [k5.ro]; exact Nat.le_trans ro k5.h
    have hTs : T < s.h := (St.get_ok.1 u.t).1
    simp only [unA_agg, unc_cons, asS_str, un0_nil, asOne_nils]
    refine Goes.xalloc (Wx.start ro5 (fun _ => False)) fun s6 e6 w6 k6 => Goes.xst [] w6 fun s7 e7 w7 k7 => ?_
    have k57 := w7.k
    have gC7 := k57.old _ _ (fun f => f) (k5.old _ _ (get_cells_ne gC u.t (by decide)) gC)
    have gR7 := k57.old _ _ (fun f => f) (k5.old _ _ (get_cells_ne gR u.t (by decide)) gR)
    have gF7 := k57.old _ _ (fun f => f) (k5.old _ _ (fun e => hTF e.symm) gF)
    have u7 := u5.keep k57 (fun f => f) (fun f => f)
    have rF7 : s7.ro ≤ s1.h := by rw [k57.ro, k5.ro]; exact rF
    obtain ⟨v8, h8, hl⟩ := map_look ⟨es, gF7, hF⟩ n
    simp only [loadS_mp gC7, List.drop_zero, takeO_one, bindO_ok, hl, unT_tup, nthS_zero, nthS_one, asB_bool]
    have hsh : ∃ nm x, v8 = .agg [.str nm, x] ∧ VM.one x = true := by
      revert h8
      cases hf : fnd (if i = 0 then [] else [(n, vr (frN 1))]) n with
      | none => rintro rfl; exact ⟨_, _, rfl, rfl⟩
      | some t =>
        intro h8
        obtain ⟨x, rfl, hx⟩ := isT_iff.1 h8
        exact ⟨_, _, rfl, hx.one⟩
    obtain ⟨nm8, x8, rfl, o8⟩ := hsh
    simp only [unA_agg, unc_cons, asS_str, un0_nil, asOne_of o8]
    refine Goes.xalloc (Wx.start w7.w.ro (fun _ => False)) fun s8 e8 w8 k8 => Goes.xst [] w8 fun s9 e9 w9 k9 => ?_
    have k79 := w9.k
    have gC9 := k79.old _ _ (fun f => f) gC7
    have gR9 := k79.old _ _ (fun f => f) gR7
    have gF9 := k79.old _ _ (fun f => f) gF7
    have gV9 : s9.get s5.h = .ok (.cells TTy [.str (frN (i + 1)), .nils]) := k79.old _ _ (fun f => f) (w7.w.get List.mem_cons_self)
    have u9 := u7.keep k79 (fun f => f) (fun f => f)
    have rF9 : s9.ro ≤ s1.h := by rw [k79.ro]; exact rF7
    have kk9 : Keeps st s9 (· = T) := ((kk.join k5 (fun j hj => .inl hj)).join k57 (fun j hj => hj.elim)).join k79 (fun j hj => hj.elim)
    have w1' : IntKind.wrap .i64 ((i : Int) + 1) = ((i + 1 : Nat) : Int) := wrapA1 (by omega)
    by_cases h0 : i = 0
    · subst h0
      simp only [if_true] at hF hl ⊢
      have hfn : fnd ([] : Bnd) n = none := rfl
      simp only [hfn, Option.isSome_none, Bool.not_false, ifB_true, loadS_mp gC9, loadS_mp gV9, List.drop_zero, takeO_one, takeT2, bindO_ok, unA_agg, unc_cons, asS_str, un0_nil]
      have hfr : IsT (vr (frN (0 + 1))) (.agg [.str (frN (0 + 1)), .nils]) := by simp only [vr, IsT]; exact ⟨.nils, [], rfl, IsSl.nils, IsTs.nil⟩
      obtain ⟨es', hes, hput⟩ := map_put ⟨es, gF9, hF⟩ rF9 hfn hfr
      simp only [hput, bindO_ok, un0_nil, letV_eq, w1']
      have kP : Keeps s9 (s9.put s1.h (.map es')) (· = s1.h) := Keeps.put rfl
      have nc : ∀ {a : Nat} {t : TypeId} {cs : List AV}, s9.get a = .ok (.cells t cs) → a ≠ s1.h := fun {a t cs} hg e => by rw [e, gF9] at hg; cases hg
      refine Goes.inl ⟨_, rfl, u9.keep kP hTF hMF, kk9.join kP (fun j hj => .inr (by rw [hj, e1]; omega)), (show s9.ro ≤ s9.h from w9.w.ro), kP.old _ _ (nc gC9) gC9, kP.old _ _ (nc gR9) gR9, rF9, es', St.get_put_same (St.get_ok.1 gF9).1, by simpa using hes⟩
    · have h1 : i = 1 := by omega
      subst h1
      have hfn : fnd [(n, vr (frN 1))] n = some (vr (frN 1)) := by simp [fnd]
      simp only [show ¬ (1 = 0) from by omega, if_false] at hF ⊢
      simp only [hfn, Option.isSome_some, Bool.not_true, ifB_false, bindO_ok, un0_nil, letV_eq, w1']
      exact Goes.inl ⟨_, rfl, u9, kk9, w9.w.ro, gC9, gR9, rF9, es, gF9, by simpa using hF⟩
  · rintro c ⟨s, rfl, u, kk, ro, gC, gR, rF, es, gF, hF⟩
    have hq : decide (((2 : Nat) : Int) < (([AV.str n, .str n].length : Nat) : Int)) = false := rfl
    simp only [w24_L1, unc_cons, asI_int, un0_nil, hq, ifB_false]
    exact Goes.inr ⟨s, rfl, ⟨_, u⟩, kk, ro, gC, gR, es, gF, hF⟩
  · rintro c ⟨s, rfl, ⟨kf, u⟩, kk, ro, gC, gR, es, gF, hF⟩
    simp only [un0_nil]
    have hTs : T < s.h := (St.get_ok.1 u.t).1
    refine Goes.xalloc (Wx.start ro (fun _ => False)) fun s5 e5 w5 k5 => Goes.xst [] w5 fun s6 e6 w6 k6 => ?_
    have k06 := w6.k
    have gC6 := k06.old _ _ (fun f => f) gC
    have gR6 := k06.old _ _ (fun f => f) gR
    have gF6 := k06.old _ _ (fun f => f) gF
    have u6 := u.keep k06 (fun f => f) (fun f => f)
    have gS6 : s6.get s.h = .ok (.cells 51 [.fn (.func 45) [] [.mp s2.h 0, .mp s.h 0]]) := w6.w.get List.mem_cons_self
    simp only [loadS_mp gS6, List.drop_zero, takeO_one, bindO_ok, callF_cap (f := 45) rfl]
    -- the variable's fresh one
    have hcl : Goes ((orc vE).wide 45 [.agg [.str n, .nils], .mp s2.h 0, .mp s.h 0] s6) (fun r => ∃ x, r.1 = .agg [.str (frN 1), x] ∧ CT (vr (frN 1)) x ∧ Keeps s6 r.2 (fun _ => False)) := by
      refine Goes.wide (Goes.step (w45_eq _ _ _ _) ?_)
      simp only [w45, unA_agg, unc_cons, asS_str, un0_nil, asOne_nils, fit1_nils]
      refine Goes.xalloc (Wx.start w6.w.ro (fun _ => False)) fun s7 e7 w7 k7 => ?_
      have gC7 := k7.old _ _ (fun f => f) gC6
      have gF7 := k7.old _ _ (fun f => f) gF6
      obtain ⟨v8, h8, hl⟩ := map_look ⟨es, gF7, hF⟩ n
      have hfn : fnd [(n, vr (frN 1))] n = some (vr (frN 1)) := by simp [fnd]
      rw [hfn] at h8 hl
      obtain ⟨x8, rfl, hx8⟩ := isT_iff.1 h8
      simp only [loadS_mp gC7, List.drop_zero, takeO_one, bindO_ok, hl, unT_tup, nthS_zero, nthS_one, Option.isSome_some, asB_bool, unA_agg, unc_cons, asS_str, un0_nil, hx8.asOne]
      refine Goes.xalloc w7 fun s8 e8 w8 k8 => Goes.xst [] w8 fun s9 e9 w9 k9 => ?_
      simp only [ifB_true]
      refine Goes.bind (R := fun c => c = ([.bool true], s9)) ?_ ?_
      · refine Goes.callB (var_prog n) rfl rfl rfl ?_
        rw [hn]
        simp only [asB_bool]
        exact Goes.some rfl
      rintro c rfl
      simp only [unc_cons, asB_bool, un0_nil, ifB_true]
      refine Goes.vload List.mem_cons_self w9.w rfl ?_
      simp only [unA_agg, unc_cons, asS_str, un0_nil, hx8.asOne]
      refine Goes.xst [(s7.h, TTy, [.str (vr (frN 1)).nm, x8])] w9 fun s10 e10 w10 k10 => ?_
      refine Goes.vload (a := s6.h) (List.mem_cons_of_mem _ List.mem_cons_self) w10.w rfl ?_
      simp only [unA_agg, unc_cons, asS_str, un0_nil]
      exact Goes.some ⟨x8, rfl, hx8, w10.k⟩
    refine Goes.callW hcl rfl (by simp [bares_cons, bares, VM.bare.bareAll, VM.bare, VM.strip]) ?_
    rintro v s7 ⟨x7, rfl, hx7, k7⟩
    have gR7 := k7.old _ _ (fun f => f) gR6
    have u7 := u6.keep k7 (fun f => f) (fun f => f)
    have ro7 : s7.ro ≤ s7.h := by rw [k7.ro]; exact Nat.le_trans w6.w.ro k7.h
    have rR7 : s7.ro ≤ st.h := by rw [k7.ro, k06.ro, kk.ro]; exact hro
    have v7 : Vw s7 [(st.h, TTy, z2)] := ⟨fun q hq => by
      simp only [List.mem_cons, List.mem_nil_iff, or_false] at hq
      subst hq
      exact ⟨gR7, rR7⟩, by simp, ro7⟩
    simp only [unA_agg, unc_cons, asS_str, un0_nil, hx7.asOne]
    have kk7 : Keeps st s7 (· = T) := (kk.join k06 (fun j hj => hj.elim)).join k7 (fun j hj => hj.elim)
    have w7' : Wx (· = T) st s7 [(st.h, TTy, z2)] := ⟨v7, kk7, fun q hq => by
      simp only [List.mem_cons, List.mem_nil_iff, or_false] at hq
      subst hq
      exact Nat.le_refl _⟩
    refine Goes.xst [] w7' fun s8 e8 w8 k8 => ?_
    refine Goes.vload List.mem_cons_self w8.w rfl ?_
    simp only [unA_agg, unc_cons, asS_str, un0_nil]
    refine Goes.some ⟨x7, rfl, hx7, ⟨kf, u7.keep k8 (by omega) (fun e => ?_)⟩, w8.k⟩
    obtain ⟨es', h1, _⟩ := u7.m
    rw [e, gR7] at h1; cases h1
end Go.Proofs.YtlfilkniobkbiaaDoor.Vm
/- TyNames: what its calls do. -/
namespace Go.Proofs.YtlfilkniobkbiaaDoor.Vm
open Go Go.VM Go.Proofs Go.Ty
section
variable {β : Type} {Q : β → Prop}
def U4 : List Tx := [[39, 97], [39, 98], [39, 99], [39, 100]]
/-- A table, and cells that are held. -/
structure NW (s : St) (T M : Nat) (B : Bnd) (k : Int) (L : Vrs) : Prop where
  tb : Tb s T M B k
  g : TbG U4 B
  ro : s.ro ≤ s.h
  c : ∀ q ∈ L, s.get q.1 = .ok (.cells q.2.1 q.2.2) ∧ q.1 ≠ T ∧ s.ro ≤ q.1
  nd : (L.map (·.1)).Nodup
variable {st : St} {T M : Nat} {B : Bnd} {k : Int} {L : Vrs}
theorem NW.keep (w : NW st T M B k L) {s : St} (h : Keeps st s (fun _ => False)) : NW s T M B k L :=
  ⟨w.tb.keep h (fun f => f) (fun f => f), w.g, by rw [h.ro]; exact Nat.le_trans w.ro h.h, fun q hq => ⟨h.old _ _ (fun f => f) (w.c q hq).1, (w.c q hq).2.1, by rw [h.ro]; exact (w.c q hq).2.2⟩, w.nd⟩
theorem tbG_nil : TbG U4 [] := ⟨.nil, fun _ _ h => by simp [fnd] at h, fun _ h => by cases h⟩
theorem inU_of {t : Ty} (h : (vlT t).all U4.contains = true) : InU U4 t := fun v hv => by
  have := List.all_eq_true.1 h v (vlT_in t hv)
  exact List.contains_iff_mem.1 this
theorem nAlike (w : NW st T M B k L) (a b : Ty) {va vb : AV} (ha : CT a va) (hb : CT b vb) {j : Nat} {e : Int} {B1 : Bnd} (hr : (alkF j B [] a b).map (fun r => (r.1, r.2.1)) = some (e, B1))
    (hm : (mayT a && mayT b) = true) (ia : (vlT a).all U4.contains = true) (ib : (vlT b).all U4.contains = true) {K : Kv β}
    (g : ∀ s fx, NW s T M (if e = 0 then B1 else B) k L → Goes (K (.int .i64 e) s fx) Q) : Goes (callS (orc vE) 17 [.mp T 0, .agg [.str a.nm, va], .agg [.str b.nm, vb]] st K) Q := by
  refine Goes.callW (Alike_ok w.tb w.g (Nat.le_of_ble_eq_true rfl) w.ro (fun _ => inU_of ia) (fun _ => inU_of ib) ha hb) rfl (by simp [bares_cons, VM.bare, VM.strip]) ?_
  rintro v s ⟨e', B', hA, rfl, tb', g', -, kk⟩
  have he : e' = e ∧ B' = (if e = 0 then B1 else B) := by
    unfold AlkO at hA
    rw [if_pos hm] at hA
    obtain ⟨j', B2, D, h1, h2⟩ := hA
    cases h3 : alkF j B [] a b with
    | none => rw [h3] at hr; cases hr
    | some r =>
      rw [h3] at hr
      simp only [Option.map_some, Option.some.injEq, Prod.mk.injEq] at hr
      have q1 := alkF_le (Nat.le_max_left j j') h3
      have q2 := alkF_le (Nat.le_max_right j j') h1
      rw [q1] at q2
      simp only [Option.some.injEq] at q2
      rw [q2] at hr
      obtain ⟨rfl, rfl⟩ := hr
      exact ⟨rfl, h2⟩
  obtain ⟨rfl, rfl⟩ := he
  refine g _ _ ⟨tb', g', by rw [kk.ro]; exact Nat.le_trans w.ro kk.h, fun q hq => ⟨kk.old _ _ ?_ (w.c q hq).1, (w.c q hq).2.1, by rw [kk.ro]; exact (w.c q hq).2.2⟩, w.nd⟩
  rintro (hj | ⟨n, e, z, cs, hg⟩)
  · obtain ⟨es, h1, _⟩ := w.tb.m
    have h2 := (w.c q hq).1
    have hj : q.1 = M := hj
    rw [hj, h1] at h2; cases h2
  · rw [(w.c q hq).1] at hg; cases hg
theorem nAlikeE (w : NW st T M B k L) (a b : Ty) {va vb : AV} (ha : CT a va) (hb : CT b vb) {j : Nat} {e : Int} (hr : (alkF j B [] a b).map (fun r => r.1) = some e) (h0 : e ≠ 0)
    (hm : (mayT a && mayT b) = true) (ia : (vlT a).all U4.contains = true) (ib : (vlT b).all U4.contains = true) {K : Kv β}
    (g : ∀ s fx, NW s T M B k L → Goes (K (.int .i64 e) s fx) Q) : Goes (callS (orc vE) 17 [.mp T 0, .agg [.str a.nm, va], .agg [.str b.nm, vb]] st K) Q := by
  cases h : alkF j B [] a b with
  | none => rw [h] at hr; cases hr
  | some r =>
    rw [h] at hr
    simp only [Option.map_some, Option.some.injEq] at hr
    refine nAlike w a b ha hb (j := j) (e := e) (B1 := r.2.1) (by rw [h, ← hr]; rfl) hm ia ib fun s fx w' => g s fx ?_
    rwa [if_neg h0] at w'
theorem nAlike0 (w : NW st T M B k L) (a b : Ty) {va vb : AV} (ha : CT a va) (hb : CT b vb) {j : Nat} {B1 : Bnd} (hr : (alkF j B [] a b).map (fun r => (r.1, r.2.1)) = some (0, B1))
    (hm : (mayT a && mayT b) = true) (ia : (vlT a).all U4.contains = true) (ib : (vlT b).all U4.contains = true) {K : Kv β}
    (g : ∀ s fx, NW s T M B1 k L → Goes (K (.int .i64 0) s fx) Q) : Goes (callS (orc vE) 17 [.mp T 0, .agg [.str a.nm, va], .agg [.str b.nm, vb]] st K) Q :=
  nAlike w a b ha hb hr hm ia ib fun s fx w' => g s fx (by rwa [if_pos rfl] at w')
theorem nAlike4 (w : NW st T M B k L) (a b : Ty) {va vb : AV} (ha : CT a va) (hb : CT b vb) (hm : (mayT a && mayT b) = false) (ia : (vlT a).all U4.contains = true) (ib : (vlT b).all U4.contains = true) {K : Kv β}
    (g : ∀ s fx, NW s T M B k L → Goes (K (.int .i64 4) s fx) Q) : Goes (callS (orc vE) 17 [.mp T 0, .agg [.str a.nm, va], .agg [.str b.nm, vb]] st K) Q := by
  refine Goes.callW (Alike_ok w.tb w.g (Nat.le_of_ble_eq_true rfl) w.ro (fun _ => inU_of ia) (fun _ => inU_of ib) ha hb) rfl (by simp [bares_cons, VM.bare, VM.strip]) ?_
  rintro v s ⟨e', B', hA, rfl, tb', g', -, kk⟩
  unfold AlkO at hA
  rw [if_neg (by rw [hm]; simp)] at hA
  obtain ⟨rfl, rfl⟩ := hA
  refine g _ _ ⟨tb', g', by rw [kk.ro]; exact Nat.le_trans w.ro kk.h, fun q hq => ⟨kk.old _ _ ?_ (w.c q hq).1, (w.c q hq).2.1, by rw [kk.ro]; exact (w.c q hq).2.2⟩, w.nd⟩
  rintro (hj | ⟨n, e, z, cs, hg⟩)
  · obtain ⟨es, h1, _⟩ := w.tb.m
    have h2 := (w.c q hq).1
    have hj : q.1 = M := hj
    rw [hj, h1] at h2; cases h2
  · rw [(w.c q hq).1] at hg; cases hg
theorem nFull (w : NW st T M B k L) (x : Ty) {vx : AV} (hv : CT x vx) {e : Int} {nm : Tx} (hf : ((fullO B x).1.nm, (fullO B x).2) = (nm, e)) {K : Kv β}
    (g : ∀ v s fx, VM.one v = true → NW s T M B k L → Goes (K (.tup [.agg [.str nm, v], .int .i64 e]) s fx) Q) : Goes (callS (orc vE) 16 [.mp T 0, .agg [.str x.nm, vx]] st K) Q := by
  refine Goes.callW (Full_ok w.tb.toTbR w.g w.ro hv) rfl (by simp [bares_cons, VM.bare, VM.strip]) ?_
  rintro r s ⟨v, rfl, hc, kk⟩
  simp only [Prod.mk.injEq] at hf
  obtain ⟨rfl, rfl⟩ := hf
  exact g _ _ _ hc.one (w.keep kk)
theorem nFullE (w : NW st T M B k L) (x : Ty) {vx : AV} (hv : CT x vx) {e : Int} (hf : (fullO B x).2 = e) {K : Kv β}
    (g : ∀ nm v s fx, VM.one v = true → NW s T M B k L → Goes (K (.tup [.agg [.str nm, v], .int .i64 e]) s fx) Q) : Goes (callS (orc vE) 16 [.mp T 0, .agg [.str x.nm, vx]] st K) Q :=
  nFull w x hv (nm := (fullO B x).1.nm) (by rw [hf]) (g _)
theorem nFresh (w : NW st T M B k L) {n : Nat} (hk : k = (n : Int)) (hn : n < 99) {K : Kv β} (g : ∀ s fx, NW s T M B ((n + 1 : Nat) : Int) L → Goes (K (.agg [.str (frN (n + 1)), .nils]) s fx) Q) :
    Goes (callS (orc vE) 29 [.mp T 0] st K) Q := by
  subst hk
  refine Goes.callW (fresh_ok w.tb hn w.ro) rfl (by simp [bares_cons, VM.bare, VM.strip]) ?_
  rintro v s ⟨rfl, tb', kk⟩
  refine g _ _ ⟨tb', w.g, by rw [kk.ro]; exact Nat.le_trans w.ro kk.h, fun q hq => ⟨kk.old _ _ (w.c q hq).2.1 (w.c q hq).1, (w.c q hq).2.1, by rw [kk.ro]; exact (w.c q hq).2.2⟩, w.nd⟩
theorem nSlot (w : NW st T M B k L) {O : Orc} {ty : TypeId} {old cs : List AV} {z : Nat} {v : AV} {K : Kv β} (hz : old.length = z) (hc : cs.length = z)
    (g : ∀ s fx, NW s T M B k ((st.h, ty, cs) :: L) → Goes (K VM.undef s fx) Q) : Goes (letSt (st.add (.cells ty old)) fun s => storeS O z (.mp st.h 0) v cs s K) Q := by
  refine Goes.xalloc (Wx.start w.ro (fun _ => False)) fun s1 e1 w1 k1 => Goes.xst [] w1 (fun s2 e2 w2 k2 => ?_) hz hc
  have w3 := w.keep w2.k
  refine g _ _ ⟨w3.tb, w3.g, w3.ro, fun q hq => ?_, ?_⟩
  · rcases List.mem_cons.1 hq with rfl | hq
    · refine ⟨w2.w.get List.mem_cons_self, fun e => ?_, by rw [w2.k.ro]; exact w.ro⟩
      have := (St.get_ok.1 w.tb.t).1
      rw [← e] at this
      exact Nat.lt_irrefl _ this
    · exact w3.c q hq
  · rw [List.map_cons, List.nodup_cons]
    refine ⟨fun hm => ?_, w.nd⟩
    obtain ⟨q, hq, e⟩ := List.mem_map.1 hm
    have h1 := (St.get_ok.1 (w.c q hq).1).1
    have e : q.1 = st.h := e
    omega
/-- The last cell is written. -/
theorem nStore {a : Nat} {ty : TypeId} {old cs : List AV} (w : NW st T M B k ((a, ty, old) :: L)) {O : Orc} {z : Nat} {v : AV} {K : Kv β} (hz : old.length = z) (hc : cs.length = z)
    (g : ∀ s fx, NW s T M B k ((a, ty, cs) :: L) → Goes (K VM.undef s fx) Q) : Goes (storeS O z (.mp a 0) v cs st K) Q := by
  obtain ⟨g1, hT, hr⟩ := w.c _ List.mem_cons_self
  have g1 : st.get a = .ok (.cells ty old) := g1
  have hT : a ≠ T := hT
  have hr : st.ro ≤ a := hr
  have e : storeS O z (.mp a 0) v cs st K = K VM.undef (st.put a (.cells ty cs)) ⟨[a], .wrote a (.cells ty cs)⟩ := by
    rw [storeS_at g1 hc (by omega) hr, splice_all (by omega)]
  have hk : Keeps st (st.put a (.cells ty cs)) (· = a) := Keeps.put rfl
  have hM : M ≠ a := fun e => by
    obtain ⟨es, h1, _⟩ := w.tb.m
    rw [e, g1] at h1; cases h1
  refine Goes.step e (g _ _ ⟨w.tb.keep hk (fun e => hT e.symm) hM, w.g, w.ro, fun q hq => ?_, w.nd⟩)
  rcases List.mem_cons.1 hq with rfl | hq
  · exact ⟨St.get_put_same (St.get_ok.1 g1).1, hT, hr⟩
  · have hn := w.nd
    rw [List.map_cons, List.nodup_cons] at hn
    have hq' := w.c q (List.mem_cons_of_mem _ hq)
    exact ⟨hk.old _ _ (fun e => hn.1 (List.mem_map.2 ⟨q, hq, e⟩)) hq'.1, hq'.2.1, hq'.2.2⟩
/-- A cell of no table. -/
theorem nSlot0 (ro : st.ro ≤ st.h) {O : Orc} {ty : TypeId} {old cs : List AV} {z : Nat} {v : AV} {K : Kv β} (hz : old.length = z) (hc : cs.length = z)
    (g : ∀ s fx, s.ro ≤ s.h → Goes (K VM.undef s fx) Q) : Goes (letSt (st.add (.cells ty old)) fun s => storeS O z (.mp st.h 0) v cs s K) Q := by
  refine Goes.xalloc (Wx.start ro (fun _ => False)) fun s1 e1 w1 k1 => Goes.xst [] w1 (fun s2 e2 w2 k2 => ?_) hz hc
  exact g _ _ w2.w.ro
theorem nNew (ro : st.ro ≤ st.h) {K : Kv β} (g : ∀ T M s fx, NW s T M [] 0 [] → Goes (K (.mp T 0) s fx) Q) : Goes (callS (orc vE) 15 [] st K) Q := by
  refine Goes.callW (new_ok ro) rfl rfl ?_
  rintro v s ⟨T, M, rfl, tb, kk, ro1, -, -⟩
  exact g _ _ _ _ ⟨tb, tbG_nil, ro1, (fun _ h => by cases h), List.nodup_nil⟩
end
/-! types -/
def tI : Ty := .mk [105, 110, 116] []
def tBo : Ty := .mk [98, 111, 111, 108] []
def tNo : Ty := .mk [110, 111, 110, 101] []
def tV (c : UInt8) : Ty := .mk [39, c] []
def tP (a b : Ty) : Ty := .mk [116, 117, 112, 108, 101] [a, b]
def tQ (a b c : Ty) : Ty := .mk [116, 117, 112, 108, 101] [a, b, c]
def tL (a : Ty) : Ty := .mk [108, 105, 115, 116] [a]
theorem ct0 (n : Tx) : CT (.mk n []) .nils := ⟨[], IsSl.nils, IsTs.nil⟩
theorem ct1 {n : Tx} {a : Ty} {x : AV} (ha : CT a x) : CT (.mk n [a]) (.sl 2 [.agg [.str a.nm, x]] .shut) := ⟨_, IsSl.shut (Nat.le_of_ble_eq_true rfl), IsTs.cons ha.isT IsTs.nil⟩
theorem ct2 {n : Tx} {a b : Ty} {x y : AV} (ha : CT a x) (hb : CT b y) : CT (.mk n [a, b]) (.sl 2 [.agg [.str a.nm, x], .agg [.str b.nm, y]] .shut) := ⟨_, IsSl.shut (Nat.le_of_ble_eq_true rfl), IsTs.cons ha.isT (IsTs.cons hb.isT IsTs.nil)⟩
theorem ct3 {n : Tx} {a b c : Ty} {x y z : AV} (ha : CT a x) (hb : CT b y) (hc : CT c z) : CT (.mk n [a, b, c]) (.sl 2 [.agg [.str a.nm, x], .agg [.str b.nm, y], .agg [.str c.nm, z]] .shut) := ⟨_, IsSl.shut (Nat.le_of_ble_eq_true rfl), IsTs.cons ha.isT (IsTs.cons hb.isT (IsTs.cons hc.isT IsTs.nil))⟩
theorem num_ok {γ : Type} (st : St) (K : Kv γ) : callS (orc vE) 22 [] st K = K (.agg [.str [105, 110, 116], .nils]) st q0 :=
  callS_bare st K rfl rfl rfl (Goes.eq (Goes.bare rfl (Goes.step g22_eq (Goes.some rfl))))
theorem v_ok (c : UInt8) {γ : Type} (st : St) (K : Kv γ) : callS (orc vE) 25 [.str [c]] st K = K (.agg [.str [39, c], .nils]) st q0 :=
  callS_bare st K rfl rfl rfl (Goes.eq (Goes.bare rfl (Goes.step (g25_eq _) (Goes.some rfl))))
theorem pair_ok {a b : Ty} {x y : AV} (ha : CT a x) (hb : CT b y) {γ : Type} (st : St) (K : Kv γ) : callS (orc vE) 26 [.agg [.str a.nm, x], .agg [.str b.nm, y]] st K = K (.agg [.str [116, 117, 112, 108, 101], .sl 2 [.agg [.str a.nm, x], .agg [.str b.nm, y]] .shut]) st q0 := by
  refine callT2 ha.b hb.b rfl (Goes.eq (Goes.bare rfl (Goes.step (g26_eq _ _) ?_))) st K
  simp only [g26, unA_agg, unc_cons, asS_str, un0_nil, ha.asOne, ha.fit1, hb.asOne, hb.fit1]
  exact Goes.some rfl
theorem to_ok {a b : Ty} {x y : AV} (ha : CT a x) (hb : CT b y) {γ : Type} (st : St) (K : Kv γ) : callS (orc vE) 28 [.agg [.str a.nm, x], .agg [.str b.nm, y]] st K = K (.agg [.str [45, 62], .sl 2 [.agg [.str a.nm, x], .agg [.str b.nm, y]] .shut]) st q0 := by
  refine callT2 ha.b hb.b rfl (Goes.eq (Goes.bare rfl (Goes.step (g28_eq _ _) ?_))) st K
  simp only [g28, unA_agg, unc_cons, asS_str, un0_nil, ha.asOne, ha.fit1, hb.asOne, hb.fit1]
  exact Goes.some rfl
theorem list_ok {a : Ty} {x : AV} (ha : CT a x) {γ : Type} (st : St) (K : Kv γ) : callS (orc vE) 27 [.agg [.str a.nm, x]] st K = K (.agg [.str [108, 105, 115, 116], .sl 2 [.agg [.str a.nm, x]] .shut]) st q0 := by
  refine callT1 ha.b rfl (Goes.eq (Goes.bare rfl (Goes.step (g27_eq _) ?_))) st K
  simp only [g27, unA_agg, unc_cons, asS_str, un0_nil, ha.asOne, ha.fit1]
  exact Goes.some rfl
/-! nobody's table -/
theorem none_full {γ : Type} (st : St) (K : Kv γ) : callS (orc vE) 16 [.nilp, .agg [.str [105, 110, 116], .nils]] st K = K (.tup [.agg [.str [], .nils], .int .i64 2]) st q0 :=
  callS_bare st K rfl rfl rfl (orc_bare (n := 40) (by kernel_rfl))
theorem none_general {γ : Type} (st : St) (K : Kv γ) : callS (orc vE) 23 [.nilp, .agg [.str [105, 110, 116], .nils], .nils] st K = K (.tup [.agg [.nils, .str [], .nils], .int .i64 2]) st q0 :=
  callS_bare st K rfl rfl rfl (orc_bare (n := 40) (by kernel_rfl))
theorem none_instance {γ : Type} (st : St) (K : Kv γ) : callS (orc vE) 24 [.nilp, .agg [.nils, .str [105, 110, 116], .nils]] st K = K (.tup [.agg [.str [], .nils], .int .i64 2]) st q0 :=
  callS_bare st K rfl rfl rfl (orc_bare (n := 40) (by kernel_rfl))
theorem none_alike {γ : Type} (st : St) (K : Kv γ) : callS (orc vE) 17 [.nilp, .agg [.str [105, 110, 116], .nils], .agg [.str [105, 110, 116], .nils]] st K = K (.int .i64 2) st q0 :=
  callS_bare st K rfl rfl rfl (orc_bare (n := 40) (by kernel_rfl))
theorem none_fresh {γ : Type} (st : St) (K : Kv γ) : callS (orc vE) 29 [.nilp] st K = K (.agg [.str [], .nils]) st q0 :=
  callS_bare st K rfl rfl rfl (orc_bare (n := 40) (by kernel_rfl))
theorem none_copy {γ : Type} (st : St) (K : Kv γ) : callS (orc vE) 30 [.nilp] st K = K .nilp st q0 :=
  callS_bare st K rfl rfl rfl (orc_bare (n := 40) (by kernel_rfl))
theorem none_around {γ : Type} (st : St) (K : Kv γ) : callS (orc vE) 41 [.nils, .fn (.func 42) [] []] st K = K (.bool false) st q0 :=
  callS_bare st K rfl rfl rfl (orc_bare (n := 40) (by kernel_rfl))
section
variable {β : Type} {Q : β → Prop} {st : St} {T M : Nat} {B : Bnd} {k : Int} {L : Vrs}
theorem General_err (w : NW st T M B k L) (x : Ty) {vx : AV} (hv : CT x vx) (hm : mayT x = true) {e : Int} (he : (fullO B x).2 = e) (h0 : e ≠ 0) :
    Goes ((orc vE).wide 23 [.mp T 0, .agg [.str x.nm, vx], .nils] st) (fun r => r.1 = .tup [.agg [.nils, .str [], .nils], .int .i64 e] ∧ Keeps st r.2 (fun _ => False)) := by
  have cm := fun {γ : Type} (st : St) (K : Kv γ) => callT1 hv.b rfl (may_prog hv.isT) st K
  have cm : ∀ {γ : Type} (st : St) (K : Kv γ), callS (orc vE) 10 [.agg [.str x.nm, vx]] st K = K (.bool (mayT x)) st q0 := cm
  refine Goes.wide (Goes.step (w23_eq _ _ _ _) ?_)
  simp only [w23, unA_agg, unc_cons, asS_str, un0_nil, asOne_mp, hv.asOne, hv.fit1]
  refine Goes.xalloc (Wx.start w.ro (fun _ => False)) fun s1 e1 w1 k1 => Goes.xalloc w1 fun s2 e2 w2 k2 => ?_
  have g2 := w2.w.get (List.mem_cons_of_mem _ List.mem_cons_self)
  simp only [loadS_mp g2, List.drop_zero, takeO_one, bindO_ok, nil_ptrT, ifB_false, cm, hm, asB_bool, Bool.not_true, none_around, unc_cons, un0_nil]
  have n2 := w.keep w2.k
  refine Goes.callW (Full_ok n2.tb.toTbR n2.g n2.ro hv) rfl (by simp [bares_cons, VM.bare, VM.strip]) ?_
  rintro r s3 ⟨v, rfl, hc, k3⟩
  have w3 : Wx (fun _ => False) st s3 [(s1.h, _, _), (st.h, _, _)] := ⟨w2.w.keeps k3 (fun _ _ f => f), w2.k.trans k3, w2.ge⟩
  simp only [unT_tup, nthS_zero, nthS_one, unA_agg, unc_cons, asS_str, un0_nil, asI_int, hc.asOne, he]
  refine Goes.xalloc w3 fun s4 e4 w4 k4 => Goes.xst [] w4 fun s5 e5 w5 k5 => ?_
  simp only [ifB_bne, if_neg h0]
  refine Goes.xst [_] w5 fun s6 e6 w6 k6 => ?_
  refine Goes.vload (List.mem_cons_of_mem _ List.mem_cons_self) w6.w rfl ?_
  simp only [unA_agg, unc_cons, asS_str, un0_nil]
  exact Goes.some ⟨rfl, w6.k⟩
theorem nGeneral (w : NW st T M B k L) (x : Ty) {vx : AV} (hv : CT x vx) (hm : mayT x = true) {e : Int} (he : (fullO B x).2 = e) (h0 : e ≠ 0) {K : Kv β}
    (g : ∀ s fx, NW s T M B k L → Goes (K (.tup [.agg [.nils, .str [], .nils], .int .i64 e]) s fx) Q) : Goes (callS (orc vE) 23 [.mp T 0, .agg [.str x.nm, vx], .nils] st K) Q := by
  refine Goes.callW (General_err w x hv hm he h0) rfl (by simp [bares_cons, VM.bare, VM.strip]) ?_
  rintro r s ⟨rfl, kk⟩
  exact g _ _ (w.keep kk)
theorem nInst (w : NW st T M B 0 L) {n : Tx} (hn : varB n = true) {K : Kv β}
    (g : ∀ x k s fx, CT (vr (frN 1)) x → NW s T M B k L → Goes (K (.tup [.agg [.str (frN 1), x], .int .i64 0]) s fx) Q) : Goes (callS (orc vE) 24 [.mp T 0, .agg [.sl 1 [.str n, .str n] .shut, .str n, .nils]] st K) Q := by
  refine Goes.callW (inst_one w.tb w.ro hn) rfl (by simp [bares_cons, VM.bare, VM.strip]) ?_
  rintro v s ⟨x, rfl, hx, ⟨k', tb'⟩, kk⟩
  exact g _ _ _ _ hx ⟨tb', w.g, by rw [kk.ro]; exact Nat.le_trans w.ro kk.h, fun q hq => ⟨kk.old _ _ (w.c q hq).2.1 (w.c q hq).1, (w.c q hq).2.1, by rw [kk.ro]; exact (w.c q hq).2.2⟩, w.nd⟩
end
end Go.Proofs.YtlfilkniobkbiaaDoor.Vm
/- TyNames: what is closed. Printed by tyx.py. -/
namespace Go.Proofs.YtlfilkniobkbiaaDoor.Vm
open Go Go.VM Go.Proofs Go.Ty
theorem p1 {γ : Type} (st : St) (K : Kv γ) : callS (orc vE) 26 [.agg [.str [105, 110, 116], .nils], .agg [.str [105, 110, 116], .nils]] st K = K (.agg [.str [116, 117, 112, 108, 101], .sl 2 [.agg [.str [105, 110, 116], .nils], .agg [.str [105, 110, 116], .nils]] .shut]) st q0 := pair_ok (a := (.mk [105, 110, 116] [])) (b := (.mk [105, 110, 116] [])) (ct0 _) (ct0 _) st K
theorem p2 {γ : Type} (st : St) (K : Kv γ) : callS (orc vE) 26 [.agg [.str [39, 97], .nils], .agg [.str [105, 110, 116], .nils]] st K = K (.agg [.str [116, 117, 112, 108, 101], .sl 2 [.agg [.str [39, 97], .nils], .agg [.str [105, 110, 116], .nils]] .shut]) st q0 := pair_ok (a := (.mk [39, 97] [])) (b := (.mk [105, 110, 116] [])) (ct0 _) (ct0 _) st K
theorem p3 {γ : Type} (st : St) (K : Kv γ) : callS (orc vE) 26 [.agg [.str [105, 110, 116], .nils], .agg [.str [98, 111, 111, 108], .nils]] st K = K (.agg [.str [116, 117, 112, 108, 101], .sl 2 [.agg [.str [105, 110, 116], .nils], .agg [.str [98, 111, 111, 108], .nils]] .shut]) st q0 := pair_ok (a := (.mk [105, 110, 116] [])) (b := (.mk [98, 111, 111, 108] [])) (ct0 _) (ct0 _) st K
theorem p4 {γ : Type} (st : St) (K : Kv γ) : callS (orc vE) 26 [.agg [.str [39, 98], .nils], .agg [.str [105, 110, 116], .nils]] st K = K (.agg [.str [116, 117, 112, 108, 101], .sl 2 [.agg [.str [39, 98], .nils], .agg [.str [105, 110, 116], .nils]] .shut]) st q0 := pair_ok (a := (.mk [39, 98] [])) (b := (.mk [105, 110, 116] [])) (ct0 _) (ct0 _) st K
theorem p5 {γ : Type} (st : St) (K : Kv γ) : callS (orc vE) 26 [.agg [.str [39, 121], .nils], .agg [.str [39, 120], .nils]] st K = K (.agg [.str [116, 117, 112, 108, 101], .sl 2 [.agg [.str [39, 121], .nils], .agg [.str [39, 120], .nils]] .shut]) st q0 := pair_ok (a := (.mk [39, 121] [])) (b := (.mk [39, 120] [])) (ct0 _) (ct0 _) st K
theorem f1 {γ : Type} (st : St) (K : Kv γ) : callS (orc vE) 28 [.agg [.str [39, 120], .nils], .agg [.str [39, 122], .nils]] st K = K (.agg [.str [45, 62], .sl 2 [.agg [.str [39, 120], .nils], .agg [.str [39, 122], .nils]] .shut]) st q0 := to_ok (a := (.mk [39, 120] [])) (b := (.mk [39, 122] [])) (ct0 _) (ct0 _) st K
theorem f2 {γ : Type} (st : St) (K : Kv γ) : callS (orc vE) 28 [.agg [.str [39, 98], .nils], .agg [.str [39, 99], .nils]] st K = K (.agg [.str [45, 62], .sl 2 [.agg [.str [39, 98], .nils], .agg [.str [39, 99], .nils]] .shut]) st q0 := to_ok (a := (.mk [39, 98] [])) (b := (.mk [39, 99] [])) (ct0 _) (ct0 _) st K
theorem f3 {γ : Type} (st : St) (K : Kv γ) : callS (orc vE) 28 [.agg [.str [39, 97], .nils], .agg [.str [45, 62], .sl 2 [.agg [.str [39, 98], .nils], .agg [.str [39, 99], .nils]] .shut]] st K = K (.agg [.str [45, 62], .sl 2 [.agg [.str [39, 97], .nils], .agg [.str [45, 62], .sl 2 [.agg [.str [39, 98], .nils], .agg [.str [39, 99], .nils]] .shut]] .shut]) st q0 := to_ok (a := (.mk [39, 97] [])) (b := (.mk [45, 62] [(.mk [39, 98] []), (.mk [39, 99] [])])) (ct0 _) (ct2 (ct0 _) (ct0 _)) st K
theorem f4 {γ : Type} (st : St) (K : Kv γ) : callS (orc vE) 28 [.agg [.str [39, 97], .nils], .agg [.str [39, 98], .nils]] st K = K (.agg [.str [45, 62], .sl 2 [.agg [.str [39, 97], .nils], .agg [.str [39, 98], .nils]] .shut]) st q0 := to_ok (a := (.mk [39, 97] [])) (b := (.mk [39, 98] [])) (ct0 _) (ct0 _) st K
theorem f5 {γ : Type} (st : St) (K : Kv γ) : callS (orc vE) 28 [.agg [.str [45, 62], .sl 2 [.agg [.str [39, 97], .nils], .agg [.str [39, 98], .nils]] .shut], .agg [.str [39, 99], .nils]] st K = K (.agg [.str [45, 62], .sl 2 [.agg [.str [45, 62], .sl 2 [.agg [.str [39, 97], .nils], .agg [.str [39, 98], .nils]] .shut], .agg [.str [39, 99], .nils]] .shut]) st q0 := to_ok (a := (.mk [45, 62] [(.mk [39, 97] []), (.mk [39, 98] [])])) (b := (.mk [39, 99] [])) (ct2 (ct0 _) (ct0 _)) (ct0 _) st K
theorem l1 {γ : Type} (st : St) (K : Kv γ) : callS (orc vE) 27 [.agg [.str [39, 97], .nils]] st K = K (.agg [.str [108, 105, 115, 116], .sl 2 [.agg [.str [39, 97], .nils]] .shut]) st q0 := list_ok (a := (.mk [39, 97] [])) (ct0 _) st K
theorem l2 {γ : Type} (st : St) (K : Kv γ) : callS (orc vE) 27 [.agg [.str [45, 62], .sl 2 [.agg [.str [39, 120], .nils], .agg [.str [39, 122], .nils]] .shut]] st K = K (.agg [.str [108, 105, 115, 116], .sl 2 [.agg [.str [45, 62], .sl 2 [.agg [.str [39, 120], .nils], .agg [.str [39, 122], .nils]] .shut]] .shut]) st q0 := list_ok (a := (.mk [45, 62] [(.mk [39, 120] []), (.mk [39, 122] [])])) (ct2 (ct0 _) (ct0 _)) st K
theorem l3 {γ : Type} (st : St) (K : Kv γ) : callS (orc vE) 27 [.agg [.str [116, 117, 112, 108, 101], .sl 2 [.agg [.str [105, 110, 116], .nils], .agg [.str [105, 110, 116], .nils]] .shut]] st K = K (.agg [.str [108, 105, 115, 116], .sl 2 [.agg [.str [116, 117, 112, 108, 101], .sl 2 [.agg [.str [105, 110, 116], .nils], .agg [.str [105, 110, 116], .nils]] .shut]] .shut]) st q0 := list_ok (a := (.mk [116, 117, 112, 108, 101] [(.mk [105, 110, 116] []), (.mk [105, 110, 116] [])])) (ct2 (ct0 _) (ct0 _)) st K
theorem l4 {γ : Type} (st : St) (K : Kv γ) : callS (orc vE) 27 [.agg [.str [105, 110, 116], .nils]] st K = K (.agg [.str [108, 105, 115, 116], .sl 2 [.agg [.str [105, 110, 116], .nils]] .shut]) st q0 := list_ok (a := (.mk [105, 110, 116] [])) (ct0 _) st K
theorem l5 {γ : Type} (st : St) (K : Kv γ) : callS (orc vE) 27 [.agg [.str [108, 105, 115, 116], .sl 2 [.agg [.str [105, 110, 116], .nils]] .shut]] st K = K (.agg [.str [108, 105, 115, 116], .sl 2 [.agg [.str [108, 105, 115, 116], .sl 2 [.agg [.str [105, 110, 116], .nils]] .shut]] .shut]) st q0 := list_ok (a := (.mk [108, 105, 115, 116] [(.mk [105, 110, 116] [])])) (ct1 (ct0 _)) st K
theorem sh1 {γ : Type} (st : St) (K : Kv γ) : callS (orc vE) 12 [.agg [.str [116, 117, 112, 108, 101], .sl 2 [.agg [.str [39, 120], .nils], .agg [.str [116, 117, 112, 108, 101], .sl 2 [.agg [.str [39, 121], .nils], .agg [.str [39, 120], .nils]] .shut], .agg [.str [108, 105, 115, 116], .sl 2 [.agg [.str [45, 62], .sl 2 [.agg [.str [39, 120], .nils], .agg [.str [39, 122], .nils]] .shut]] .shut]] .shut]] st K = K (.str [39, 97, 32, 42, 32, 40, 39, 98, 32, 42, 32, 39, 97, 41, 32, 42, 32, 40, 39, 97, 32, 45, 62, 32, 39, 99, 41, 32, 108, 105, 115, 116]) st q0 := callS_bare st K rfl rfl rfl (orc_bare (n := 200) (by kernel_rfl))
theorem sh2 {γ : Type} (st : St) (K : Kv γ) : callS (orc vE) 12 [.agg [.str [45, 62], .sl 2 [.agg [.str [39, 97], .nils], .agg [.str [45, 62], .sl 2 [.agg [.str [39, 98], .nils], .agg [.str [39, 99], .nils]] .shut]] .shut]] st K = K (.str [39, 97, 32, 45, 62, 32, 39, 98, 32, 45, 62, 32, 39, 99]) st q0 := callS_bare st K rfl rfl rfl (orc_bare (n := 200) (by kernel_rfl))
theorem sh3 {γ : Type} (st : St) (K : Kv γ) : callS (orc vE) 12 [.agg [.str [45, 62], .sl 2 [.agg [.str [45, 62], .sl 2 [.agg [.str [39, 97], .nils], .agg [.str [39, 98], .nils]] .shut], .agg [.str [39, 99], .nils]] .shut]] st K = K (.str [40, 39, 97, 32, 45, 62, 32, 39, 98, 41, 32, 45, 62, 32, 39, 99]) st q0 := callS_bare st K rfl rfl rfl (orc_bare (n := 200) (by kernel_rfl))
theorem sh4 {γ : Type} (st : St) (K : Kv γ) : callS (orc vE) 12 [.agg [.str [108, 105, 115, 116], .sl 2 [.agg [.str [116, 117, 112, 108, 101], .sl 2 [.agg [.str [105, 110, 116], .nils], .agg [.str [105, 110, 116], .nils]] .shut]] .shut]] st K = K (.str [40, 105, 110, 116, 32, 42, 32, 105, 110, 116, 41, 32, 108, 105, 115, 116]) st q0 := callS_bare st K rfl rfl rfl (orc_bare (n := 200) (by kernel_rfl))
theorem sh5 {γ : Type} (st : St) (K : Kv γ) : callS (orc vE) 12 [.agg [.str [108, 105, 115, 116], .sl 2 [.agg [.str [108, 105, 115, 116], .sl 2 [.agg [.str [105, 110, 116], .nils]] .shut]] .shut]] st K = K (.str [105, 110, 116, 32, 108, 105, 115, 116, 32, 108, 105, 115, 116]) st q0 := callS_bare st K rfl rfl rfl (orc_bare (n := 200) (by kernel_rfl))
theorem sh6 {γ : Type} (st : St) (K : Kv γ) : callS (orc vE) 12 [.agg [.str [], .nils]] st K = K (.str []) st q0 := callS_bare st K rfl rfl rfl (orc_bare (n := 200) (by kernel_rfl))
def bigT : Nat → Ty
  | 0 => tI
  | n + 1 => tP (bigT n) (bigT n)
def bigV : Nat → AV
  | 0 => .nils
  | n + 1 => .sl 2 [.agg [.str (bigT n).nm, bigV n], .agg [.str (bigT n).nm, bigV n]] .shut
theorem ctBig : ∀ n, CT (bigT n) (bigV n)
  | 0 => ct0 _
  | n + 1 => ct2 (ctBig n) (ctBig n)
def bB1 : Bnd := [([39, 98], tP (bigT 7) (tV 99))]
def bB2 : Bnd := bB1 ++ [([39, 99], tP (bigT 7) (tV 100))]
theorem al_u : (alkF 30 [] [] (tQ tI tI tI) (tP tI tI)).map (fun r => r.1) = some 65 := by kernel_rfl
theorem al_d : (alkF 30 [] [] (tV 97) (tL (tV 97))).map (fun r => r.1) = some 66 := by kernel_rfl
theorem al_e : (alkF 30 [] [] tI tBo).map (fun r => r.1) = some 65 := by kernel_rfl
theorem al_g : (alkF 30 [] [] (tP tI tI) (tQ tI tI tI)).map (fun r => r.1) = some 65 := by kernel_rfl
theorem al_h : (alkF 30 [] [] (tP (tV 97) tI) (tP tI tBo)).map (fun r => r.1) = some 65 := by kernel_rfl
theorem al_k : (alkF 30 [] [] (tV 98) (tP (bigT 7) (tV 99))).map (fun r => (r.1, r.2.1)) = some (0, bB1) := by kernel_rfl
theorem al_m : (alkF 30 bB1 [] (tV 99) (tP (bigT 7) (tV 100))).map (fun r => (r.1, r.2.1)) = some (0, bB2) := by kernel_rfl
theorem al_q : (alkF 30 bB2 [] (tV 100) (tP (tV 98) tI)).map (fun r => r.1) = some 66 := by kernel_rfl
theorem fu_a : ((fullO [] (tV 97)).1.nm, (fullO [] (tV 97)).2) = ([39, 97], 0) := by kernel_rfl
theorem fu_c : (fullO bB2 (tV 99)).2 = 0 := by kernel_rfl
theorem fu_b : (fullO bB2 (tV 98)).2 = 40 := by kernel_rfl
theorem may_k : mayT (tP (bigT 7) (tV 99)) = true := by kernel_rfl
theorem may_m : mayT (tP (bigT 7) (tV 100)) = true := by kernel_rfl
theorem in_k : (vlT (tP (bigT 7) (tV 99))).all U4.contains = true := by kernel_rfl
theorem in_m : (vlT (tP (bigT 7) (tV 100))).all U4.contains = true := by kernel_rfl
end Go.Proofs.YtlfilkniobkbiaaDoor.Vm
/- The law TyNames. -/
namespace Go.Proofs.YtlfilkniobkbiaaDoor.Vm
open Go Go.VM Go.Proofs Go.Ty
theorem pb {n : Nat} {c : UInt8} {γ : Type} (st : St) (K : Kv γ) : callS (orc vE) 26 [.agg [.str (bigT n).nm, bigV n], .agg [.str [39, c], .nils]] st K = K (.agg [.str [116, 117, 112, 108, 101], .sl 2 [.agg [.str (bigT n).nm, bigV n], .agg [.str [39, c], .nils]] .shut]) st q0 :=
  pair_ok (a := bigT n) (b := tV c) (ctBig n) (ct0 _) st K
theorem pbb {n : Nat} {γ : Type} (st : St) (K : Kv γ) : callS (orc vE) 26 [.agg [.str (bigT n).nm, bigV n], .agg [.str (bigT n).nm, bigV n]] st K = K (.agg [.str [116, 117, 112, 108, 101], .sl 2 [.agg [.str (bigT n).nm, bigV n], .agg [.str (bigT n).nm, bigV n]] .shut]) st q0 :=
  pair_ok (a := bigT n) (b := bigT n) (ctBig n) (ctBig n) st K
theorem nil_p (β : Type) (K : Bool → Option β) : nilS (U.ptr TTb) .nilp .nilp K = K true := rfl
theorem fr1 : frN 1 = [39, 49] := by kernel_rfl
theorem fr2 : frN 2 = [39, 50] := by kernel_rfl
theorem law_names : (orc vE).bare 7 [] = some (.bool true) := by
  have caw := fun {γ : Type} (st : St) (K : Kv γ) => callS_bare (f := 9) st K rfl rfl rfl (orc_bare awake_run)
  refine Goes.eq (Goes.bare rfl (Goes.step g7_eq ?_))
  simp only [g7, num_ok, v_ok, none_full, none_general, none_instance, none_alike, none_fresh, none_copy, p1, p2, p3, p4, p5, f1, f2, f3, f4, f5, l1, l2, l3, l4, l5, sh2, sh3, sh4, sh5, sh6, caw, unA_agg, unc_cons, asS_str, un0_nil, unT_tup, nthS_zero, nthS_one, asI_int, asB_bool, asOne_nils, asOne_sl, fit1_nils, fit1_shut, apart_kept, apart_kept2, Bool.and_self, Bool.and_true, chk_true, nil_p, ifB_true, beq_self_eq_true]
  refine nSlot0 (Nat.le_refl _) rfl rfl fun s1 _ r1 => ?_
  refine nSlot0 r1 rfl rfl fun s2 _ r2 => ?_
  refine nSlot0 r2 rfl rfl fun s3 _ r3 => ?_
  refine nNew r3 fun T0 M0 s4 _ w4 => ?_
  refine nInst w4 rfl fun x k s5 _ hx w5 => ?_
  simp only [unT_tup, nthS_zero, nthS_one, unA_agg, unc_cons, asS_str, un0_nil, asI_int, hx.asOne]
  refine nSlot w5 rfl rfl fun s6 _ w6 => ?_
  have g6 := (w6.c _ List.mem_cons_self).1
  refine Goes.bind (R := fun c => ∃ s, c = ([.bool false], s) ∧ s.ro ≤ s.h) ?_ ?_
  · simp only [ifB_bne, if_true, loadS_mp g6, List.drop_zero, takeO_one, bindO_ok, asS_str, fr1, beq_self_eq_true, Bool.not_true, ifB_false]
    refine nAlikeE w6 (tQ tI tI tI) (tP tI tI) (ct3 (ct0 _) (ct0 _) (ct0 _)) (ct2 (ct0 _) (ct0 _)) al_u (by decide) rfl rfl rfl fun s7 _ w7 => ?_
    exact Goes.some ⟨_, rfl, w7.ro⟩
  rintro c ⟨s7, rfl, r7⟩
  simp only [unc_cons, asB_bool, un0_nil, ifB_false]
  refine nNew r7 fun T M s8 _ w8 => ?_
  refine nAlikeE w8 (tV 97) (tL (tV 97)) (ct0 _) (ct1 (ct0 _)) al_d (by decide) rfl rfl rfl fun s9 _ w9 => ?_
  simp only [asI_int]
  refine nAlikeE w9 tI tBo (ct0 _) (ct0 _) al_e (by decide) rfl rfl rfl fun s10 _ w10 => ?_
  simp only [asI_int]
  refine nAlike4 w10 tI tNo (ct0 _) (ct0 _) rfl rfl rfl fun s11 _ w11 => ?_
  simp only [asI_int]
  refine nAlikeE w11 (tP tI tI) (tQ tI tI tI) (ct2 (ct0 _) (ct0 _)) (ct3 (ct0 _) (ct0 _) (ct0 _)) al_g (by decide) rfl rfl rfl fun s12 _ w12 => ?_
  simp only [asI_int]
  refine nAlikeE w12 (tP (tV 97) tI) (tP tI tBo) (ct2 (ct0 _) (ct0 _)) (ct2 (ct0 _) (ct0 _)) al_h (by decide) rfl rfl rfl fun s13 _ w13 => ?_
  simp only [asI_int]
  refine nFull w13 (tV 97) (ct0 _) fu_a fun va s14 _ oa w14 => ?_
  simp only [unT_tup, nthS_zero, nthS_one, unA_agg, unc_cons, asS_str, un0_nil, asI_int, asOne_of oa]
  refine nSlot w14 rfl rfl fun s15 _ w15 => ?_
  refine nSlot w15 rfl rfl fun s16 _ w16 => ?_
  -- the big one
  refine Goes.bind (R := fun c => ∃ s, c = (0, [], s) ∧ NW s T M [] 0 [(s15.h, TTy, [.str (bigT 7).nm, bigV 7]), (s14.h, TTy, [.str [39, 97], va])])
    (Goes.upto (n := 7) (I := fun i c => ∃ s, c = ([.int .i64 (i : Int)], s) ∧ NW s T M [] 0 [(s15.h, TTy, [.str (bigT i).nm, bigV i]), (s14.h, TTy, [.str [39, 97], va])]) ?_ ?_ 7 0 _ (by omega) ⟨_, rfl, w16⟩) ?_
  · rintro i c hi ⟨s, rfl, w⟩
    have hq : decide ((i : Int) < 7) = true := decide_eq_true (by omega)
    have g := (w.c _ List.mem_cons_self).1
    simp only [g7_L1, unc_cons, asI_int, un0_nil, hq, ifB_true, loadS_mp g, List.drop_zero, takeT2, bindO_ok, unA_agg, asS_str, pbb, asOne_sl]
    refine nStore w rfl rfl fun s' _ w' => ?_
    simp only [letV_eq, wrapA1 (show i + 1 ≤ 9223372036854775807 by omega)]
    exact Goes.inl ⟨s', rfl, w'⟩
  · rintro c ⟨s, rfl, w⟩
    have hq : decide (((7 : Nat) : Int) < 7) = false := rfl
    simp only [g7_L1, unc_cons, asI_int, un0_nil, hq, ifB_false]
    exact Goes.inr ⟨s, rfl, w⟩
  rintro c ⟨s17, rfl, w17⟩
  have g17 := (w17.c _ List.mem_cons_self).1
  simp only [un0_nil, loadS_mp g17, List.drop_zero, takeT2, bindO_ok, unA_agg, unc_cons, asS_str, apart_kept, apart_kept2, Bool.and_self, Bool.and_true, chk_true, pb]
  refine nAlike0 w17 (tV 98) (tP (bigT 7) (tV 99)) (ct0 _) (ct2 (ctBig 7) (ct0 _)) al_k (by rw [may_k]; rfl) rfl in_k fun s18 _ w18 => ?_
  have g18 := (w18.c _ List.mem_cons_self).1
  simp only [asI_int, un0_nil, loadS_mp g18, List.drop_zero, takeT2, bindO_ok, unA_agg, unc_cons, asS_str, apart_kept, apart_kept2, Bool.and_self, Bool.and_true, chk_true, pb]
  refine nAlike0 w18 (tV 99) (tP (bigT 7) (tV 100)) (ct0 _) (ct2 (ctBig 7) (ct0 _)) al_m (by rw [may_m]; rfl) rfl in_m fun s19 _ w19 => ?_
  simp only [asI_int]
  refine nFullE w19 (tV 99) (ct0 _) fu_c fun nc vc s20 _ oc w20 => ?_
  simp only [unT_tup, nthS_zero, nthS_one, unA_agg, unc_cons, asS_str, un0_nil, asI_int, asOne_of oc]
  refine nSlot w20 rfl rfl fun s21 _ w21 => ?_
  refine nFullE w21 (tV 98) (ct0 _) fu_b fun nb vb s22 _ ob w22 => ?_
  simp only [unT_tup, nthS_zero, nthS_one, unA_agg, unc_cons, asS_str, un0_nil, asI_int, asOne_of ob]
  refine nSlot w22 rfl rfl fun s23 _ w23 => ?_
  refine nGeneral w23 (tV 98) (ct0 _) rfl fu_b (by decide) fun s24 _ w24 => ?_
  simp only [unT_tup, nthS_zero, nthS_one, unA_agg, unc_cons, asS_str, un0_nil, asI_int, asOne_nils]
  refine nSlot w24 rfl rfl fun s25 _ w25 => ?_
  refine nAlikeE w25 (tV 100) (tP (tV 98) tI) (ct0 _) (ct2 (ct0 _) (ct0 _)) al_q (by decide) rfl rfl rfl fun s26 _ w26 => ?_
  simp only [asI_int]
  refine nSlot w26 rfl rfl fun s27 _ w27 => ?_
  have gA := (w27.c (s14.h, TTy, [.str [39, 97], va]) (by simp)).1
  refine Goes.bind (R := fun c => c.1 = [.bool true]) ?_ ?_
  · simp only [beq_self_eq_true, ifB_true, loadS_mp gA, List.drop_zero, takeO_one, bindO_ok, asS_str]
    refine nFresh w27 (n := 0) rfl (by omega) fun s28 _ w28 => ?_
    simp only [unA_agg, unc_cons, asS_str, un0_nil, Nat.zero_add, fr1, beq_self_eq_true, ifB_true]
    refine nFresh w28 (n := 1) rfl (by omega) fun s29 _ w29 => ?_
    have gT := (w29.c _ List.mem_cons_self).1
    simp only [unA_agg, unc_cons, asS_str, un0_nil, Nat.reduceAdd, fr2, beq_self_eq_true, ifB_true, loadS_mp gT, List.drop_zero, takeT2, bindO_ok, sh1, sh2, sh3, sh4, sh5, sh6, caw, asB_bool]
    exact Goes.some rfl
  · rintro ⟨c, s⟩ hc
    have hc : c = [.bool true] := hc
    subst hc
    simp only [unc_cons, asB_bool, un0_nil]
    exact Goes.some rfl
end Go.Proofs.YtlfilkniobkbiaaDoor.Vm
