/-
  (A part of the proof: ScopeN, ScopeP, ScopeQ, ScopeW, ScopeArg.)
-/
import Derived.Test.YtoopmjhdgkcleaaGreatDoorVmCD
import Derived.Test.YtoopmjhdgkcleaaGreatDoorVmAA
import Derived.Test.YtoopmjhdgkcleaaGreatDoorVmBB
import Derived.Test.YtoopmjhdgkcleaaGreatDoorVmBA
import Derived.Test.YtoopmjhdgkcleaaGreatDoorVmCA
import Derived.KernelRfl
/- A table as the document's; the same tables; the same numbers. -/
set_option maxRecDepth 100000
set_option linter.unusedSimpArgs false
namespace Go.Proofs.YtoopmjhdgkcleaaGreatDoor.Vm
open Go Go.VM Go.Proofs Go.Scope

/-- What freezing leaves of a slice. -/
def Fre (st : St) (z : Nat) (x : AV) (es : List AV) : Prop := ∃ y, IsSl z y es ∧ ∀ n, VM.freeze st 0 (n + 1) x = .ok y
theorem fre_own {st : St} {z : Nat} {e : TypeId} {x : AV} {es : List AV} (h : Own st z e x es) : Fre st z x es := own_freeze h
theorem fre_sl (st : St) {z : Nat} {x : AV} {es : List AV} (h : IsSl z x es) : Fre st z x es := ⟨x, h, fun n => fz_sl h st 0 (n + 1) (by omega)⟩
theorem frzT {st : St} {t : Tb} {xb xu xt : AV} (ob : Fre st 3 xb (encB t.bs)) (ou : Fre st 4 xu (encU t.us)) (ot : Fre st 1 xt (encN t.tw)) : ∃ v, IsTb t v ∧ ∀ {β : Type} (K : AV → Option β), frzS st 0 (.agg [xb, xu, xt]) K = K v := by
  obtain ⟨yb, hb, e1⟩ := ob
  obtain ⟨yu, hu, e2⟩ := ou
  obtain ⟨yt, ht, e3⟩ := ot
  refine ⟨_, ⟨yb, yu, yt, rfl, hb, hu, ht⟩, fun K => ?_⟩
  have e4 : VM.freeze st 0 100 (.agg [xb, xu, xt]) = .ok (.agg [yb, yu, yt]) := by
    show (do pure (.agg (← allE (VM.freeze st 0 99) [xb, xu, xt])) : Res AV) = _
    have e5 : allE (VM.freeze st 0 99) [xb, xu, xt] = .ok [yb, yu, yt] := by
      simp only [allE, e1 98, e2 98, e3 98, ok_bind, pure_eq]
    rw [e5]; rfl
  have e5 : bare (.agg [yb, yu, yt]) = true := by
    show (bare yb && (bare yu && (bare yt && true))) = true
    rw [hb.bare, hu.bare, ht.bare]; rfl
  simp only [frzS, e4, e5, chk_true]
theorem encB_take {l : List (Tx × Sp)} {i : Nat} {b : Tx × Sp} (h : l[i]? = some b) : encB (l.take i) ++ [.agg [.str b.1, .int .i64 b.2.1, .int .i64 b.2.2]] = encB (l.take (i + 1)) := by
  unfold encB
  rw [List.take_add_one, h, List.map_append]
  rfl
theorem encU_take {l : List (Tx × Sp × Int)} {i : Nat} {u : Tx × Sp × Int} (h : l[i]? = some u) : encU (l.take i) ++ [.agg [.str u.1, .int .i64 u.2.1.1, .int .i64 u.2.1.2, .int .i64 u.2.2]] = encU (l.take (i + 1)) := by
  unfold encU
  rw [List.take_add_one, h, List.map_append]
  rfl
theorem take2 {a b : AV} : takeO 2 true [a, b] = some (.agg [a, b]) := takeO_all rfl
theorem take2b {a b c : AV} : takeO 2 true [a, b, c] = some (.agg [a, b]) := by rw [takeO_agg (by simp)]; rfl
theorem law_of_ok {t : Tb} {v : AV} (hv : IsTb t v) (hsm : Sm t) : Goes ((orc vE).bare 11 [v]) (IsTb t) := by
  obtain ⟨yb, yu, yt, rfl, hb, hu, ht⟩ := hv
  have hbl := hb.1
  have hul := hu.1
  rw [encB_len] at hbl
  rw [encU_len] at hul
  have lb := fun {γ : Type} (K : Nat → Option γ) => hb.len K
  simp only [encB_len] at lb
  have lu := fun {γ : Type} (K : Nat → Option γ) => hu.len K
  simp only [encU_len] at lu
  refine Goes.bare rfl (Goes.step (g11_eq _) ?_)
  simp only [g11, unA_agg, unc_cons, un0_nil, hb.asOne, hu.asOne, ht.asOne, hb.fit1, hu.fit1, ht.fit1]
  refine Goes.bind (R := fun c => ∃ s' n' xb, c = (n', [], s') ∧ s'.get 1 = .ok (.cells 41 [xb, .nils, yt]) ∧ s'.get 0 = .ok (.cells 41 [.nils, .nils, .nils]) ∧ Own s' 3 74 xb (encB t.bs) ∧ s'.ro = 0)
    (Goes.upto (n := t.bs.length) (I := fun i s => ∃ s' xb, s = ([.int .i64 (i : Int)], s') ∧ s'.get 1 = .ok (.cells 41 [xb, .nils, yt]) ∧ s'.get 0 = .ok (.cells 41 [.nils, .nils, .nils]) ∧ Own s' 3 74 xb (encB (t.bs.take i)) ∧ s'.ro = 0) ?_ ?_ t.bs.length 0 _ (by omega) ⟨_, .nils, rfl, rfl, rfl, Own.nils (Nat.zero_le _) _ _, rfl⟩) ?_
  · rintro i s hi ⟨s2, xb, rfl, g1, g0, ob, hro⟩
    have hlt : (i : Int) < (t.bs.length : Int) := by omega
    have hget : t.bs[i]? = some t.bs[i] := List.getElem?_eq_getElem hi
    have hbs := hsm.bs
    have hi1 := fun {γ : Type} (s : St) (K : AV → List Nat → Option γ) => hb.idx (encB_get hget) s K
    obtain ⟨v', s3, fx, e1, o1, k1, _⟩ := app_own (b := 32) (new := [.agg [.str t.bs[i].1, .int .i64 t.bs[i].2.1, .int .i64 t.bs[i].2.2]]) ob (by simp) (room_of (by rw [encB_len, List.length_take]; simp; omega) (by omega) (by omega))
    have g13 := k1.old _ _ (ob.not g1) g1
    have g03 := k1.old _ _ (ob.not g0) g0
    have e2 := fun {γ : Type} (K : Kv γ) => storeS_at (O := orc vE) (cs := [v']) (z := 1) (off := 0) (v := v') g13 rfl (Nat.le_of_ble_eq_true rfl) (by rw [k1.ro, hro]; omega) K
    have e1' := fun {γ : Type} (K : Kv γ) => appS_of e1 K
    simp only [g11_L1, unc_cons, asI_int, un0_nil, lb, ifB_decide, if_pos hlt, loadS_mp g1, List.drop_zero, takeO_one, bindO_ok, hi1, AV.cells, fldA_ip, List.drop_succ_cons, loadS_ip, asS_str, take2, unA_agg, e1', asOne_of o1.one, e2, letV_eq, wrap1 hi hbl]
    refine Goes.inl ?_
    refine ⟨_, v', rfl, St.get_put_same (St.get_ok.1 g13).1, by rw [St.get_put_ne (by omega)]; exact g03, ?_, by show s3.ro = 0; rw [k1.ro]; exact hro⟩
    rw [← encB_take hget]
    exact o1.put g13
  · rintro s ⟨s2, xb, rfl, g1, g0, ob, hro⟩
    have hlt : ¬ (t.bs.length : Int) < (t.bs.length : Int) := by omega
    rw [List.take_length] at ob
    simp only [g11_L1, unc_cons, asI_int, un0_nil, lb, ifB_decide, if_neg hlt]
    refine Goes.inr ?_
    exact ⟨_, _, _, rfl, g1, g0, ob, hro⟩
  rintro c ⟨s1, n1, xb, rfl, g1, g0, ob, hro⟩
  simp only [un0_nil]
  refine Goes.bind (R := fun c => ∃ s' n' xu, c = (n', [], s') ∧ s'.get 1 = .ok (.cells 41 [xb, xu, yt]) ∧ s'.get 0 = .ok (.cells 41 [.nils, .nils, .nils]) ∧ Own s' 3 74 xb (encB t.bs) ∧ Own s' 4 75 xu (encU t.us) ∧ s'.ro = 0)
    (Goes.upto (n := t.us.length) (I := fun i s => ∃ s' xu, s = ([.int .i64 (i : Int)], s') ∧ s'.get 1 = .ok (.cells 41 [xb, xu, yt]) ∧ s'.get 0 = .ok (.cells 41 [.nils, .nils, .nils]) ∧ Own s' 3 74 xb (encB t.bs) ∧ Own s' 4 75 xu (encU (t.us.take i)) ∧ s'.ro = 0) ?_ ?_ t.us.length 0 _ (by omega) ⟨_, .nils, rfl, g1, g0, ob, Own.nils ob.1 _ _, hro⟩) ?_
  · rintro i s hi ⟨s2, xu, rfl, g1, g0, ob, ou, hro⟩
    have hlt : (i : Int) < (t.us.length : Int) := by omega
    have hget : t.us[i]? = some t.us[i] := List.getElem?_eq_getElem hi
    have hus := hsm.us
    have hi1 := fun {γ : Type} (s : St) (K : AV → List Nat → Option γ) => hu.idx (encU_get hget) s K
    obtain ⟨v', s3, fx, e1, o1, k1, _⟩ := app_own (b := 40) (new := [.agg [.str t.us[i].1, .int .i64 t.us[i].2.1.1, .int .i64 t.us[i].2.1.2, .int .i64 t.us[i].2.2]]) ou (by simp) (room_of (by rw [encU_len, List.length_take]; simp; omega) (by omega) (by omega))
    have g13 := k1.old _ _ (ou.not g1) g1
    have g03 := k1.old _ _ (ou.not g0) g0
    have ob3 := own_keep ob k1 (own_two ob ou (by decide))
    have e2 := fun {γ : Type} (K : Kv γ) => storeS_at (O := orc vE) (cs := [v']) (z := 1) (off := 1) (v := v') g13 rfl (Nat.le_of_ble_eq_true rfl) (by rw [k1.ro, hro]; omega) K
    have e1' := fun {γ : Type} (K : Kv γ) => appS_of e1 K
    simp only [g11_L2, unc_cons, asI_int, un0_nil, lu, ifB_decide, if_pos hlt, loadS_mp g1, List.drop_zero, List.drop_succ_cons, takeO_one, bindO_ok, hi1, AV.cells, fldA_ip, loadS_ip, asS_str, take2b, unA_agg, e1', asOne_of o1.one, e2, letV_eq, wrap1 hi hul]
    refine Goes.inl ?_
    refine ⟨_, v', rfl, St.get_put_same (St.get_ok.1 g13).1, by rw [St.get_put_ne (by omega)]; exact g03, ob3.put g13, ?_, by show s3.ro = 0; rw [k1.ro]; exact hro⟩
    rw [← encU_take hget]
    exact o1.put g13
  · rintro s ⟨s2, xu, rfl, g1, g0, ob, ou, hro⟩
    have hlt : ¬ (t.us.length : Int) < (t.us.length : Int) := by omega
    rw [List.take_length] at ou
    simp only [g11_L2, unc_cons, asI_int, un0_nil, lu, ifB_decide, if_neg hlt]
    refine Goes.inr ?_
    exact ⟨_, _, _, rfl, g1, g0, ob, ou, hro⟩
  rintro c ⟨s2, n2, xu, rfl, g1, g0, ob, ou, hro⟩
  have e2 := fun {γ : Type} (K : Kv γ) => storeS_at (O := orc vE) (cs := [xb, xu, yt]) (z := 3) (off := 0) (v := .agg [xb, xu, yt]) g0 rfl (Nat.le_of_ble_eq_true rfl) (by rw [hro]; omega) K
  have g2 : (s2.put 0 (.cells 41 [xb, xu, yt])).get 0 = .ok (.cells 41 [xb, xu, yt]) := St.get_put_same (St.get_ok.1 g0).1
  have e2 : ∀ {γ : Type} (K : Kv γ), storeS (orc vE) 3 (.mp 0 0) (.agg [xb, xu, yt]) [xb, xu, yt] s2 K = K VM.undef (s2.put 0 (.cells 41 [xb, xu, yt])) ⟨[0], .wrote 0 (.cells 41 [xb, xu, yt])⟩ := fun K => e2 K
  obtain ⟨v, hv, ef⟩ := frzT (fre_own (ob.put g0 (t' := 41) (cs' := [xb, xu, yt]))) (fre_own (ou.put g0)) (fre_sl (s2.put 0 (.cells 41 [xb, xu, yt])) ht)
  simp only [un0_nil, loadS_mp g1, List.drop_zero, take3, bindO_ok, unA_agg, unc_cons, asOne_of ob.one, asOne_of ou.one, ht.asOne, e2, loadS_mp g2, ef]
  exact Goes.some hv
/-! The same. -/
theorem ints_ok {x y : AV} {l : List Nat} (hx : IsSl 1 x (encN l)) (hy : IsSl 1 y (encN l)) : Goes ((orc vE).bare 14 [x, y]) (· = .bool true) := by
  have hxl := hx.1
  rw [encN_len] at hxl
  have lx := fun {γ : Type} (K : Nat → Option γ) => hx.len K
  simp only [encN_len] at lx
  have ly := fun {γ : Type} (K : Nat → Option γ) => hy.len K
  simp only [encN_len] at ly
  refine Goes.bare rfl (Goes.step (g14_eq _ _) ?_)
  simp only [g14, lx, ly, bne_self_eq_false, ifB_false]
  refine Goes.bind (R := fun c => ∃ b, c = (0, [.bool b], S0)) (Goes.upto (n := l.length) (I := fun i s => s = ([.bool false, .int .i64 (i : Int)], S0)) ?_ ?_ l.length 0 _ (by omega) rfl) ?_
  · rintro i s hi rfl
    have hlt : (i : Int) < (l.length : Int) := by omega
    have hget : l[i]? = some l[i] := List.getElem?_eq_getElem hi
    simp only [g14_L1, unc_cons, asI_int, asB_bool, un0_nil, lx, ifB_decide, if_pos hlt, hx.idx (encN_get hget), hy.idx (encN_get hget), AV.cells, loadS_ip, takeO_one, bindO_ok, bne_self_eq_false, ifB_false, letV_eq, wrap1 hi hxl]
    refine Goes.inl ?_
    rfl
  · rintro s rfl
    have hlt : ¬ (l.length : Int) < (l.length : Int) := by omega
    simp only [g14_L1, unc_cons, asI_int, asB_bool, un0_nil, lx, ifB_decide, if_neg hlt]
    refine Goes.inr ?_
    exact ⟨_, rfl⟩
  · rintro c ⟨b, rfl⟩
    simp only [unc_cons, asB_bool, un0_nil, sel2_zero]
    exact Goes.some rfl
theorem eq_span (a b : Int) : eqT (Env.T vE) 19 32 (.agg [.int .i64 a, .int .i64 b]) (.agg [.int .i64 a, .int .i64 b]) = .ok true := by
  have h : eqT (Env.T vE) 19 32 (.agg [.int .i64 a, .int .i64 b]) (.agg [.int .i64 a, .int .i64 b]) = (match a == a with | true => (match b == b with | true => .ok true | false => .ok false) | false => .ok false) := rfl
  rw [h, beq_self_eq_true, beq_self_eq_true]
theorem neq_B (s : Tx) (a b : Int) : toO (VM.binOp (Env.T vE) BinOp.neq 74 (.agg [.str s, .int .i64 a, .int .i64 b]) (.agg [.str s, .int .i64 a, .int .i64 b])) = some (.bool false) := by
  have e : eqT (Env.T vE) 20 74 (.agg [.str s, .int .i64 a, .int .i64 b]) (.agg [.str s, .int .i64 a, .int .i64 b]) = .ok true := by
    have h : eqT (Env.T vE) 20 74 (.agg [.str s, .int .i64 a, .int .i64 b]) (.agg [.str s, .int .i64 a, .int .i64 b]) = (match s == s with | true => (do match ← eqT (Env.T vE) 19 32 (.agg [.int .i64 a, .int .i64 b]) (.agg [.int .i64 a, .int .i64 b]) with | true => .ok true | false => .ok false) | false => .ok false) := rfl
    rw [h, eq_span, beq_self_eq_true]; rfl
  have h : VM.binOp (Env.T vE) BinOp.neq 74 (.agg [.str s, .int .i64 a, .int .i64 b]) (.agg [.str s, .int .i64 a, .int .i64 b]) = (do pure (.bool !(← eqT (Env.T vE) 20 74 (.agg [.str s, .int .i64 a, .int .i64 b]) (.agg [.str s, .int .i64 a, .int .i64 b])))) := rfl
  rw [h, e]; rfl
theorem neq_U (s : Tx) (a b k : Int) : toO (VM.binOp (Env.T vE) BinOp.neq 75 (.agg [.str s, .int .i64 a, .int .i64 b, .int .i64 k]) (.agg [.str s, .int .i64 a, .int .i64 b, .int .i64 k])) = some (.bool false) := by
  have e : eqT (Env.T vE) 20 75 (.agg [.str s, .int .i64 a, .int .i64 b, .int .i64 k]) (.agg [.str s, .int .i64 a, .int .i64 b, .int .i64 k]) = .ok true := by
    have h : eqT (Env.T vE) 20 75 (.agg [.str s, .int .i64 a, .int .i64 b, .int .i64 k]) (.agg [.str s, .int .i64 a, .int .i64 b, .int .i64 k]) = (match s == s with | true => (do match ← eqT (Env.T vE) 19 32 (.agg [.int .i64 a, .int .i64 b]) (.agg [.int .i64 a, .int .i64 b]) with | true => (match k == k with | true => .ok true | false => .ok false) | false => .ok false) | false => .ok false) := rfl
    rw [h, eq_span, beq_self_eq_true, beq_self_eq_true]; rfl
  have h : VM.binOp (Env.T vE) BinOp.neq 75 (.agg [.str s, .int .i64 a, .int .i64 b, .int .i64 k]) (.agg [.str s, .int .i64 a, .int .i64 b, .int .i64 k]) = (do pure (.bool !(← eqT (Env.T vE) 20 75 (.agg [.str s, .int .i64 a, .int .i64 b, .int .i64 k]) (.agg [.str s, .int .i64 a, .int .i64 b, .int .i64 k])))) := rfl
  rw [h, e]; rfl
theorem callP2 {γ : Type} {F : FuncId} {z y : Nat} {x1 x2 : AV} {e1 e2 : List AV} (h1 : IsSl z x1 e1) (h2 : IsSl y x2 e2) {v : AV} (h : (orc vE).bare F [x1, x2] = some v) (hf : vE.full F = false) (st : St) (K : Kv γ) : callS (orc vE) F [x1, x2] st K = K v st q0 :=
  callS_bare st K hf (by simp only [List.map_cons, List.map_nil, h1.strip, h2.strip]) (by simp only [bares_cons, h1.bare, h2.bare]; rfl) h
theorem same_ok {t : Tb} {u v : AV} (hu : IsTb t u) (hv : IsTb t v) : Goes ((orc vE).bare 10 [u, v]) (· = .bool true) := by
  obtain ⟨xb, xu, xt, rfl, hxb, hxu, hxt⟩ := hu
  obtain ⟨yb, yu, yt, rfl, hyb, hyu, hyt⟩ := hv
  have hbl := hxb.1
  have hul := hxu.1
  rw [encB_len] at hbl
  rw [encU_len] at hul
  have lxb := fun {γ : Type} (K : Nat → Option γ) => hxb.len K
  have lyb := fun {γ : Type} (K : Nat → Option γ) => hyb.len K
  have lxu := fun {γ : Type} (K : Nat → Option γ) => hxu.len K
  have lyu := fun {γ : Type} (K : Nat → Option γ) => hyu.len K
  simp only [encB_len] at lxb lyb
  simp only [encU_len] at lxu lyu
  obtain ⟨w, hw, rfl⟩ := ints_ok hxt hyt
  refine Goes.bare rfl (Goes.step (g10_eq _ _) ?_)
  simp only [g10, unA_agg, unc_cons, un0_nil, hxb.asOne, hxu.asOne, hxt.asOne, hyb.asOne, hyu.asOne, hyt.asOne, hxb.fit1, hxu.fit1, hxt.fit1, hyb.fit1, hyu.fit1, hyt.fit1, lxb, lyb, lxu, lyu, bne_self_eq_false, ifB_false, callP2 hxt hyt hw rfl, asB_bool, Bool.not_true, bindO_ok]
  refine Goes.bind (R := fun c => ∃ b, c = (0, [.bool b], S0)) (Goes.upto (n := t.bs.length) (I := fun i s => s = ([.bool false, .int .i64 (i : Int)], S0)) ?_ ?_ t.bs.length 0 _ (by omega) rfl) ?_
  · rintro i s hi rfl
    have hlt : (i : Int) < (t.bs.length : Int) := by omega
    have hget : t.bs[i]? = some t.bs[i] := List.getElem?_eq_getElem hi
    simp only [g10_L1, unc_cons, asI_int, asB_bool, asS_str, un0_nil, lxb, ifB_decide, if_pos hlt, hxb.idx (encB_get hget), hyb.idx (encB_get hget), AV.cells, loadS_ip, take3, unA_agg, bindO_ok, neq_B, ifB_false, letV_eq, wrap1 hi hbl]
    refine Goes.inl ?_
    rfl
  · rintro s rfl
    have hlt : ¬ (t.bs.length : Int) < (t.bs.length : Int) := by omega
    simp only [g10_L1, unc_cons, asI_int, asB_bool, un0_nil, lxb, ifB_decide, if_neg hlt]
    refine Goes.inr ?_
    exact ⟨_, rfl⟩
  rintro c ⟨b, rfl⟩
  simp only [unc_cons, asB_bool, un0_nil, sel2_zero]
  refine Goes.bind (R := fun c => ∃ b, c = (0, [.bool b], S0)) (Goes.upto (n := t.us.length) (I := fun i s => s = ([.bool b, .int .i64 (i : Int)], S0)) ?_ ?_ t.us.length 0 _ (by omega) rfl) ?_
  · rintro i s hi rfl
    have hlt : (i : Int) < (t.us.length : Int) := by omega
    have hget : t.us[i]? = some t.us[i] := List.getElem?_eq_getElem hi
    have take4 : ∀ {a b c d : AV}, takeO 4 true [a, b, c, d] = some (.agg [a, b, c, d]) := takeO_all rfl
    simp only [g10_L2, unc_cons, asI_int, asB_bool, asS_str, un0_nil, lxu, ifB_decide, if_pos hlt, hxu.idx (encU_get hget), hyu.idx (encU_get hget), AV.cells, loadS_ip, take4, unA_agg, bindO_ok, neq_U, ifB_false, letV_eq, wrap1 hi hul]
    refine Goes.inl ?_
    rfl
  · rintro s rfl
    have hlt : ¬ (t.us.length : Int) < (t.us.length : Int) := by omega
    simp only [g10_L2, unc_cons, asI_int, asB_bool, un0_nil, lxu, ifB_decide, if_neg hlt]
    refine Goes.inr ?_
    exact ⟨_, rfl⟩
  rintro c ⟨b2, rfl⟩
  simp only [unc_cons, asB_bool, un0_nil, sel2_zero]
  exact Goes.some rfl
end Go.Proofs.YtoopmjhdgkcleaaGreatDoor.Vm
/- The law ScopeBound. -/
set_option maxRecDepth 100000
set_option linter.unusedSimpArgs false
namespace Go.Proofs.YtoopmjhdgkcleaaGreatDoor.Vm
open Go Go.VM Go.Proofs Go.Scope

/-- A table in a variable. -/
theorem lvT (st : St) {v1 v2 v3 : AV} (h : st.ro ≤ st.h) : ∃ st' fx, st'.get st.h = .ok (.cells 29 [v1, v2, v3]) ∧ Keeps st st' (fun _ => False) ∧ st'.h = st.h + 1 ∧
    ∀ {β : Type} (K : Kv β), storeS (orc vE) 3 (AV.mp st.h 0) (.agg [v1, v2, v3]) [v1, v2, v3] (st.add (.cells 29 [.nils, .nils, .nils])) K = K VM.undef st' fx := by
  obtain ⟨st', g, k1, n, fx, e⟩ := local_var (O := orc vE) (st := st) (t := 29) (z := 3) (old := [.nils, .nils, .nils]) (cs := [v1, v2, v3]) (.agg [v1, v2, v3]) rfl rfl h
  exact ⟨st', fx, g, k1, n, e⟩
end Go.Proofs.YtoopmjhdgkcleaaGreatDoor.Vm
/- The law ScopeBehind. -/
set_option maxRecDepth 100000
set_option linter.unusedSimpArgs false
namespace Go.Proofs.YtoopmjhdgkcleaaGreatDoor.Vm
open Go Go.VM Go.Proofs Go.Scope

theorem callW1 {γ : Type} {F : FuncId} {z : Nat} {x : AV} {es : List AV} (hx : IsW z x es) {v : AV} (h : (orc vE).bare F [VM.strip x] = some v) (hf : vE.full F = false) (st : St) (K : Kv γ) : callS (orc vE) F [x] st K = K v st q0 := by
  have h1 : (bares (List.map VM.strip [x]) && !(orc vE).full F) = true := by
    show (bares [VM.strip x] && !vE.full F) = true
    rw [hf, bares_cons, hx.strip.bare]; rfl
  unfold callS outS callO
  rw [h1, show List.map VM.strip [x] = [VM.strip x] from rfl, h]
  rfl
theorem IsDs.mem : ∀ {l : List Bd} {es : List AV}, IsDs l es → ∀ v ∈ es, ∃ d, IsD d v
  | [], _, h, v, hv => by simp only [IsDs] at h; subst h; cases hv
  | d :: l, _, h, v, hv => by
    simp only [IsDs] at h
    obtain ⟨w, ws, rfl, hd, h⟩ := h
    rcases List.mem_cons.1 hv with rfl | hv
    · exact ⟨d, hd⟩
    · exact IsDs.mem h v hv
theorem IsDs.app : ∀ {l m : List Bd} {es fs : List AV}, IsDs l es → IsDs m fs → IsDs (l ++ m) (es ++ fs)
  | [], m, _, fs, h, k => by simp only [IsDs] at h; subst h; exact k
  | d :: l, m, _, fs, h, k => by
    simp only [IsDs] at h
    obtain ⟨w, ws, rfl, hd, h⟩ := h
    simp only [List.cons_append, IsDs]
    exact ⟨w, _, rfl, hd, IsDs.app h k⟩
theorem fits_ds {l : List Bd} {es : List AV} (h : IsDs l es) {β : Type} (K : List AV → Option β) : fitTs true es K = K es := fitTs_of (fun v hv K => by
  obtain ⟨d, hd⟩ := h.mem v hv
  obtain ⟨k, sp, rc, nm, qs, ls, x1, es1, y, fs, z, hs, hb, rfl, hx1, hp1, hy, hq, hz, hl1, hE⟩ := hd.opn
  have f0 : ∀ {γ : Type} (v : AV) (K : AV → Option γ), VM.fit v = .ok v → fit1 v K = K v := fun v K e => by unfold fit1; rw [e]
  have o0 : ∀ {γ : Type} (v : AV) (K : Option γ), VM.one v = true → asOne v K = K := fun v K e => asOne_of e K
  simp only [fitT, unA_agg, onesS, hx1.asOne, hy.asOne, hz.asOne, o0 (.int .i64 _) _ rfl, o0 (.int .u8 _) _ rfl, o0 (.bool _) _ rfl, o0 (.str _) _ rfl, fitC, hx1.fit1, hy.fit1, hz.fit1, f0 (.int .i64 _) _ rfl, f0 (.int .u8 _) _ rfl, f0 (.bool _) _ rfl, f0 (.str _) _ rfl]) K
theorem sizes_ds {l : List Bd} {es : List AV} (h : IsDs l es) : sizesOk 11 es = true := sizesOk_of fun v hv => by
  obtain ⟨d, hd⟩ := h.mem v hv
  obtain ⟨k, sp, rc, nm, qs, ls, x1, es1, y, fs, z, hs, hb, rfl, _⟩ := hd.opn
  rfl
theorem nDs_len : ∀ (l : List Bd), l.length ≤ nDs l
  | [] => Nat.zero_le _
  | ⟨sp, rc, ps, .mk k s r nm qs ls⟩ :: l => by
    have := nDs_len l
    simp only [List.length_cons, nDs, nE]
    omega
theorem enc_takeB {l x : List (Tx × Sp)} : (encB (l ++ x)).take l.length = encB l := by rw [encB_app, List.take_append_of_le_length (by rw [encB_len]; exact Nat.le_refl _), List.take_of_length_le (by rw [encB_len]; exact Nat.le_refl _)]
theorem enc_takeU {l x : List (Tx × Sp × Int)} : (encU (l ++ x)).take l.length = encU l := by rw [encU_app, List.take_append_of_le_length (by rw [encU_len]; exact Nat.le_refl _), List.take_of_length_le (by rw [encU_len]; exact Nat.le_refl _)]
theorem enc_takeN {l x : List Nat} : (encN (l ++ x)).take l.length = encN l := by rw [encN_app, List.take_append_of_le_length (by rw [encN_len]; exact Nat.le_refl _), List.take_of_length_le (by rw [encN_len]; exact Nat.le_refl _)]
/-- A slice, cut. -/
theorem cut_to {z : Nat} {x : AV} {es : List AV} (h : IsSl z x es) {m : Nat} (hm : m ≤ es.length) : ∃ x', IsSl z x' (es.take m) ∧ ∀ {β : Type} (K : AV → Option β), sliceS z x none (some (m : Int)) none K = K x' := by
  obtain ⟨x', h1, h2⟩ := h.cut (lo := none) (hi := some (m : Int)) (l := 0) (m := m) rfl (hiO_nat hm)
  exact ⟨x', by simpa using h1, h2⟩
theorem law_behind (hw : (orc vE).bare 7 [] = some (.bool true)) {l m : List Bd} {es fs : List AV} {x y : AV} (hl : IsDs l es) (hx : IsSl 11 x es) (hm : IsDs m fs) (hy : IsSl 11 y fs) (hnl : nDs l ≤ 2000000) (hnm : nDs m ≤ 2000000) :
    (orc vE).bare 4 [x, y] = some (.bool true) := by
  refine Goes.eq (Goes.bare rfl (Goes.step (g4_eq _ _) ?_))
  have cw := fun {γ : Type} (st : St) (K : Kv γ) => callS_bare (E := vE) (args := []) st K rfl rfl rfl hw
  obtain ⟨v1, h1, b, rfl⟩ := large_ok hl hx
  obtain ⟨v2, h2, c, rfl⟩ := large_ok hm hy
  simp only [g4, cw, asB_bool, Bool.not_true, ifB_false, callP1 hx h1 rfl, callP1 hy h2 rfl, bindO_ok, unc_cons, un0_nil]
  cases b with
  | true =>
    simp only [ifB_true, bindO_ok, unc_cons, asB_bool, un0_nil]
    exact Goes.some rfl
  | false =>
  cases c with
  | true =>
    simp only [ifB_true, ifB_false, bindO_ok, unc_cons, asB_bool, un0_nil]
    exact Goes.some rfl
  | false =>
    have hsm : ∀ {q : List Bd}, nDs q ≤ 4000000 → Sm (ofS q) := fun {q} h => by
      have h1 := wt_of q
      unfold wt at h1
      exact ⟨by omega, by omega, by omega⟩
    have happ := nDs_app l m
    obtain ⟨v3, h3, hv3⟩ := prog_of_ok hl hx (hsm (by omega))
    have hle := nDs_len l
    have hme := nDs_len m
    have hle2 := hl.len
    have hme2 := hm.len
    obtain ⟨⟨zb, ezb⟩, ⟨zu, ezu⟩, ⟨zt, ezt⟩⟩ := behind_ext l m
    have hsl := hsm (q := l) (by omega)
    have hsb := hsm (q := l ++ m) (by omega)
    have q3 := hv3
    obtain ⟨yb, yu, yt, rfl, hb, hu, ht⟩ := q3
    obtain ⟨s1, fx1, g1, k1, n1, e1⟩ := lvT S0 (v1 := yb) (v2 := yu) (v3 := yt) (Nat.le_refl _)
    have hro1 : s1.ro ≤ s1.h := by rw [k1.ro, n1]; exact Nat.zero_le _
    obtain ⟨w1, s2, o2, k2, fx2, e2⟩ := own_apps (b := 144) es (Own.shut hro1 65 (z := 11) (es := []) (Nat.zero_le _)) (fun _ => room_of (by simp; omega) (by omega) (by omega))
    rw [List.nil_append] at o2
    obtain ⟨w2, s3, o3, k3, fx3, e3⟩ := own_apps (b := 144) fs o2 (fun _ => room_of (by omega) (by omega) (by omega))
    have g2 := k2.old _ _ (fun ⟨z', es', h⟩ => by cases h) g1
    have g3 := k3.old _ _ (o2.not g2) g2
    obtain ⟨v4, h4, hv4⟩ := prog_of_ok (hl.app hm) o3.isW.strip hsb
    have q4 := hv4
    obtain ⟨tb, tu, tt, rfl, kb, ku, kt⟩ := q4
    obtain ⟨s4, fx4, g4, k4, n4, e4⟩ := lvT s3 (v1 := tb) (v2 := tu) (v3 := tt) o3.1
    have g4a := k4.old _ _ (fun f => f) g3
    have hro4 : s4.ro ≤ s3.h := by rw [k4.ro]; exact o3.1
    have h03 : (0 : Nat) ≠ s3.h := by
      have := (St.get_ok.1 g3).1
      exact fun e => by omega
    have lb := fun {γ : Type} (K : Nat → Option γ) => hb.len K
    simp only [encB_len] at lb
    have lu := fun {γ : Type} (K : Nat → Option γ) => hu.len K
    simp only [encU_len] at lu
    have lt := fun {γ : Type} (K : Nat → Option γ) => ht.len K
    simp only [encN_len] at lt
    have mb := fun {γ : Type} (K : Nat → Option γ) => kb.len K
    simp only [encB_len] at mb
    have mu := fun {γ : Type} (K : Nat → Option γ) => ku.len K
    simp only [encU_len] at mu
    have mt := fun {γ : Type} (K : Nat → Option γ) => kt.len K
    simp only [encN_len] at mt
    have d1 : decide (((ofS (l ++ m)).us.length : Int) < ((ofS l).us.length : Int)) = false := decide_eq_false (by rw [ezu, List.length_append]; omega)
    have d2 : decide (((ofS (l ++ m)).bs.length : Int) < ((ofS l).bs.length : Int)) = false := decide_eq_false (by rw [ezb, List.length_append]; omega)
    have d3 : decide (((ofS (l ++ m)).tw.length : Int) < ((ofS l).tw.length : Int)) = false := decide_eq_false (by rw [ezt, List.length_append]; omega)
    obtain ⟨cu, hcu, ecu⟩ := cut_to ku (m := (ofS l).us.length) (by rw [encU_len, ezu, List.length_append]; omega)
    obtain ⟨cb, hcb, ecb⟩ := cut_to kb (m := (ofS l).bs.length) (by rw [encB_len, ezb, List.length_append]; omega)
    obtain ⟨ct, hct, ect⟩ := cut_to kt (m := (ofS l).tw.length) (by rw [encN_len, ezt, List.length_append]; omega)
    rw [ezu, enc_takeU] at hcu
    rw [ezb, enc_takeB] at hcb
    rw [ezt, enc_takeN] at hct
    have hva : IsTb (ofS l) (.agg [yb, yu, yt]) := hv3
    have hvb : IsTb (ofS l) (.agg [cb, cu, ct]) := ⟨cb, cu, ct, rfl, hcb, hcu, hct⟩
    obtain ⟨v5, h5, hv5⟩ := law_of_ok hva hsl
    obtain ⟨v6, h6, hv6⟩ := law_of_ok hvb hsl
    obtain ⟨v7, h7, rfl⟩ := same_ok hv5 hv6
    have q5 := hv5; have q6 := hv6
    obtain ⟨b1, b2, b3, rfl, _⟩ := q5
    obtain ⟨c1, c2, c3, rfl, _⟩ := q6
    have st1 := fun {γ : Type} (K : Kv γ) => storeS_at (O := orc vE) (cs := [cu]) (z := 1) (off := 1) (v := cu) g4 rfl (Nat.le_of_ble_eq_true rfl) hro4 K
    have gg1 : (s4.put s3.h (.cells 29 [tb, cu, tt])).get s3.h = .ok (.cells 29 [tb, cu, tt]) := St.get_put_same (St.get_ok.1 g4).1
    have ga1 : (s4.put s3.h (.cells 29 [tb, cu, tt])).get 0 = .ok (.cells 29 [yb, yu, yt]) := by rw [St.get_put_ne h03.symm]; exact g4a
    have st1 : ∀ {γ : Type} (K : Kv γ), storeS (orc vE) 1 (.mp s3.h 1) cu [cu] s4 K = K VM.undef (s4.put s3.h (.cells 29 [tb, cu, tt])) ⟨[s3.h], .wrote s3.h (.cells 29 [tb, cu, tt])⟩ := fun K => st1 K
    have ro5 : (s4.put s3.h (.cells 29 [tb, cu, tt])).ro ≤ s3.h := hro4
    generalize s4.put s3.h (.cells 29 [tb, cu, tt]) = s5 at gg1 ga1 st1 ro5
    have st2 := fun {γ : Type} (K : Kv γ) => storeS_at (O := orc vE) (cs := [cb]) (z := 1) (off := 0) (v := cb) gg1 rfl (Nat.le_of_ble_eq_true rfl) ro5 K
    have gg2 : (s5.put s3.h (.cells 29 [cb, cu, tt])).get s3.h = .ok (.cells 29 [cb, cu, tt]) := St.get_put_same (St.get_ok.1 gg1).1
    have ga2 : (s5.put s3.h (.cells 29 [cb, cu, tt])).get 0 = .ok (.cells 29 [yb, yu, yt]) := by rw [St.get_put_ne h03.symm]; exact ga1
    have st2 : ∀ {γ : Type} (K : Kv γ), storeS (orc vE) 1 (.mp s3.h 0) cb [cb] s5 K = K VM.undef (s5.put s3.h (.cells 29 [cb, cu, tt])) ⟨[s3.h], .wrote s3.h (.cells 29 [cb, cu, tt])⟩ := fun K => st2 K
    have ro6 : (s5.put s3.h (.cells 29 [cb, cu, tt])).ro ≤ s3.h := ro5
    generalize s5.put s3.h (.cells 29 [cb, cu, tt]) = s6 at gg2 ga2 st2 ro6
    have st3 := fun {γ : Type} (K : Kv γ) => storeS_at (O := orc vE) (cs := [ct]) (z := 1) (off := 2) (v := ct) gg2 rfl (Nat.le_of_ble_eq_true rfl) ro6 K
    have gg3 : (s6.put s3.h (.cells 29 [cb, cu, ct])).get s3.h = .ok (.cells 29 [cb, cu, ct]) := St.get_put_same (St.get_ok.1 gg2).1
    have ga3 : (s6.put s3.h (.cells 29 [cb, cu, ct])).get 0 = .ok (.cells 29 [yb, yu, yt]) := by rw [St.get_put_ne h03.symm]; exact ga2
    have st3 : ∀ {γ : Type} (K : Kv γ), storeS (orc vE) 1 (.mp s3.h 2) ct [ct] s6 K = K VM.undef (s6.put s3.h (.cells 29 [cb, cu, ct])) ⟨[s3.h], .wrote s3.h (.cells 29 [cb, cu, ct])⟩ := fun K => st3 K
    simp only [ifB_false, callP1 hx h3 rfl, bindO_ok, unA_agg, unc_cons, asB_bool, un0_nil, letSt_eq, hb.asOne, hu.asOne, ht.asOne, e1, hx.elems, fits_ds hl, chk_of (sizes_ds hl), e2, hy.elems, fits_ds hm, chk_of (sizes_ds hm), e3, callW1 o3.isW h4 rfl, kb.asOne, ku.asOne, kt.asOne, e4, loadS_mp g4, loadS_mp g4a, List.drop_succ_cons, List.drop_zero, takeO_one, lb, lu, lt, mb, mu, mt, d1, d2, d3]
    simp only [ecu, hcu.asOne, st1, loadS_mp gg1, loadS_mp ga1, List.drop_succ_cons, List.drop_zero, takeO_one, bindO_ok, lb, ecb, hcb.asOne, st2, loadS_mp gg2, loadS_mp ga2, lt, ect, hct.asOne, st3, loadS_mp gg3, loadS_mp ga3, take3, unA_agg, unc_cons, un0_nil, callT1 hva h5 rfl, callT1 hvb h6 rfl, apart_kept, apart_kept2, Bool.and_true, chk_true, callT2 hv5 hv6 h7 rfl, asB_bool]
    exact Goes.some rfl
end Go.Proofs.YtoopmjhdgkcleaaGreatDoor.Vm
/- The examples, run. -/
set_option maxRecDepth 1000000
set_option maxHeartbeats 0
namespace Go.Proofs.YtoopmjhdgkcleaaGreatDoor.Vm
open Go Go.VM Go.Proofs
theorem ran_works : (kcaller vE (fun f => (ktable vE vF).get f) 3000).bare 7 [] trueK = true := by kernel_rfl
theorem works_ok : (orc vE).bare 7 [] = some (.bool true) := orc_bare (ranTrue (fun _ => rfl) ran_works)
end Go.Proofs.YtoopmjhdgkcleaaGreatDoor.Vm
/- Declarations as arguments. -/
set_option maxRecDepth 100000
set_option linter.unusedSimpArgs false
namespace Go.Proofs.YtoopmjhdgkcleaaGreatDoor.Vm
open Go Go.VM Go.Proofs Go.Scope

def lawS : List TypeId := [9, 5, 3, 4, 32, 101, 60, 63, 61, 65, 22]
theorem lawS_ok : ∀ t, inS lawS t = true → okTy Tryz.prog lawS t = true := by
  intro t ht
  have : t ∈ lawS := by
    obtain ⟨u, hu, e⟩ := List.any_eq_true.1 ht
    rw [← Nat.eq_of_beq_eq_true e]; exact hu
  exact List.all_eq_true.1 (show (lawS.all fun t => okTy Tryz.prog lawS t) = true by kernel_rfl) t this
theorem av_str {n t : Nat} {cs : List AV} (hu : Tryz.prog.underlying t = some .string) (h : AvOf Tryz.prog n t cs) : ∃ s, cs = [.str s] ∧ s.length ≤ maxLen := by
  cases n with
  | zero => cases h
  | succ n => simp only [AvOf, hu] at h; exact h
theorem av_u8 {n t : Nat} {cs : List AV} (hu : Tryz.prog.underlying t = some (.int .u8)) (h : AvOf Tryz.prog n t cs) : ∃ m : Nat, cs = [.int .u8 (m : Int)] := by
  cases n with
  | zero => cases h
  | succ n =>
    simp only [AvOf, hu] at h
    obtain ⟨m, rfl, h1, h2⟩ := h
    have h1 : (0 : Int) ≤ m := h1
    exact ⟨m.toNat, by rw [Int.toNat_of_nonneg h1]⟩
theorem av_int {n t : Nat} {cs : List AV} (hu : Tryz.prog.underlying t = some (.int .i64)) (h : AvOf Tryz.prog n t cs) : ∃ m : Int, cs = [.int .i64 m] := by
  cases n with
  | zero => cases h
  | succ n =>
    simp only [AvOf, hu] at h
    obtain ⟨m, rfl, _⟩ := h
    exact ⟨m, rfl⟩
theorem av_bool {n t : Nat} {cs : List AV} (hu : Tryz.prog.underlying t = some .bool) (h : AvOf Tryz.prog n t cs) : ∃ b : Bool, cs = [.bool b] := by
  cases n with
  | zero => cases h
  | succ n =>
    simp only [AvOf, hu] at h
    exact h
theorem span_of {n : Nat} {cs : List AV} (h : AvOf Tryz.prog n 32 cs) : ∃ sp : Sp, cs = [.int .i64 sp.1, .int .i64 sp.2] := by
  cases n with
  | zero => cases h
  | succ n =>
    simp only [AvOf, Tryz.underlying32] at h
    obtain ⟨a0, b0, rfl, h0, a1, b1, rfl, h1, rfl⟩ := h
    obtain ⟨x, rfl⟩ := av_int Tryz.underlying3 h0
    obtain ⟨y, rfl⟩ := av_int Tryz.underlying3 h1
    exact ⟨(x, y), rfl⟩
/-- A slice as an argument. -/
theorem av_sl {n t e : Nat} {cs : List AV} (hu : Tryz.prog.underlying t = some (.slice e)) (h : AvOf Tryz.prog (n + 1) t cs) (hst : isSt Tryz.prog e = true) {z : Nat} (hz : Tryz.prog.cellsOf e = z) :
    ∃ (x : AV) (L : List (List AV)), cs = [x] ∧ IsSl z x (L.map .agg) ∧ (∀ a ∈ L, AvOf Tryz.prog n e a) ∧ bulkAs (L.map .agg) + 1 ≤ bulkAs cs := by
  simp only [AvOf, hu] at h
  rcases h with rfl | rfl | ⟨L, rfl, hl, hL⟩
  · exact ⟨_, [], rfl, IsSl.nils, (fun _ h => by cases h), by rw [bulkAs_cons, List.map_nil, bulkAs_nil]; simp only [bulkA]; omega⟩
  · exact ⟨_, [], rfl, IsSl.emp, (fun _ h => by cases h), by rw [bulkAs_cons, List.map_nil, bulkAs_nil]; simp only [bulkA]; omega⟩
  · rw [hst, hz]
    refine ⟨_, L, rfl, IsSl.wide (by rw [List.length_map]; simpa [maxLen] using hl), hL, ?_⟩
    rw [bulkAs_cons, bulkAs_nil, bulkA_sl]
    exact Nat.le_refl _
theorem bulk_mem {L : List (List AV)} {a : List AV} (h : a ∈ L) : bulkAs a ≤ bulkAs (L.map AV.agg) := by
  induction L with
  | nil => cases h
  | cons b L ih =>
    rw [List.map_cons, bulkAs_cons, bulkA_agg]
    rcases List.mem_cons.1 h with rfl | h
    · omega
    · have := ih h; omega
theorem pats_in : ∀ {L : List (List AV)}, (∀ a ∈ L, ∃ p, IsP p (.agg a) ∧ nP p ≤ bulkAs a) → ∃ ps, IsPs ps (L.map .agg) ∧ nPs ps ≤ bulkAs (L.map AV.agg)
  | [], _ => ⟨[], IsPs.nil, by simp only [nPs]; exact Nat.zero_le _⟩
  | a :: L, h => by
    obtain ⟨p, hp, hn⟩ := h a List.mem_cons_self
    obtain ⟨ps, hps, hm⟩ := pats_in (L := L) fun b hb => h b (List.mem_cons_of_mem _ hb)
    refine ⟨p :: ps, IsPs.cons hp hps, ?_⟩
    simp only [nPs, List.map_cons, bulkAs_cons, bulkA_agg]
    omega
theorem exprs_in : ∀ {L : List (List AV)}, (∀ a ∈ L, ∃ e, IsE e (.agg a) ∧ nE e ≤ bulkAs a) → ∃ l, IsEs l (L.map .agg) ∧ nEs l ≤ bulkAs (L.map AV.agg)
  | [], _ => ⟨[], IsEs.nil, by simp only [nEs]; exact Nat.zero_le _⟩
  | a :: L, h => by
    obtain ⟨p, hp, hn⟩ := h a List.mem_cons_self
    obtain ⟨ps, hps, hm⟩ := exprs_in (L := L) fun b hb => h b (List.mem_cons_of_mem _ hb)
    refine ⟨p :: ps, IsEs.cons hp hps, ?_⟩
    simp only [nEs, List.map_cons, bulkAs_cons, bulkA_agg]
    omega
theorem nPs_len : ∀ (ps : List Pat), ps.length ≤ nPs ps
  | [] => by simp
  | .mk k lit sp nm qs :: ps => by
    have := nPs_len ps
    simp only [List.length_cons, nPs, nP]
    omega
theorem pat_of : ∀ (n : Nat) {cs : List AV}, AvOf Tryz.prog n 101 cs → ∃ p, IsP p (.agg cs) ∧ nP p ≤ bulkAs cs := by
  intro n
  induction n using Nat.strongRecOn with
  | _ n ih =>
    intro cs h
    cases n with
    | zero => cases h
    | succ n =>
      simp only [AvOf, Tryz.underlying101] at h
      obtain ⟨a0, b0, rfl, h0, a1, b1, rfl, h1, a2, b2, rfl, h2, a3, b3, rfl, h3, a4, b4, rfl, h4, rfl⟩ := h
      obtain ⟨k, rfl⟩ := av_u8 Tryz.underlying5 h0
      obtain ⟨lit, rfl⟩ := av_u8 Tryz.underlying5 h1
      obtain ⟨sp, rfl⟩ := span_of h2
      obtain ⟨nm, rfl, _⟩ := av_str Tryz.underlying9 h3
      cases n with
      | zero => cases h4
      | succ n =>
        obtain ⟨x, L, rfl, hx, hL, hb⟩ := av_sl Tryz.underlying60 h4 (by kernel_rfl) (z := 6) (by kernel_rfl)
        obtain ⟨ps, hps, hn⟩ := pats_in (L := L) fun a ha => ih n (by omega) (hL a ha)
        refine ⟨.mk k lit sp nm ps, by simp only [IsP]; exact ⟨x, _, rfl, hx, hps⟩, ?_⟩
        simp only [nP, bulkAs_app, bulkAs_cons, bulkAs_nil, bulkA_int, bulkA_str] at hb ⊢
        omega
theorem expr_of : ∀ (n : Nat) {cs : List AV}, AvOf Tryz.prog n 63 cs → bulkAs cs ≤ 1048576 → ∃ e, IsE e (.agg cs) ∧ nE e ≤ bulkAs cs := by
  intro n
  induction n using Nat.strongRecOn with
  | _ n ih =>
    intro cs h hbk
    cases n with
    | zero => cases h
    | succ n =>
      simp only [AvOf, Tryz.underlying63] at h
      obtain ⟨a0, b0, rfl, h0, a1, b1, rfl, h1, a2, b2, rfl, h2, a3, b3, rfl, h3, a4, b4, rfl, h4, a5, b5, rfl, h5, rfl⟩ := h
      obtain ⟨k, rfl⟩ := av_u8 Tryz.underlying5 h0
      obtain ⟨sp, rfl⟩ := span_of h1
      obtain ⟨rc, rfl⟩ := av_bool Tryz.underlying4 h2
      obtain ⟨nm, rfl, _⟩ := av_str Tryz.underlying9 h3
      cases n with
      | zero => cases h4
      | succ n =>
        obtain ⟨x, L, rfl, hx, hL, hb⟩ := av_sl Tryz.underlying60 h4 (by kernel_rfl) (z := 6) (by kernel_rfl)
        obtain ⟨y, M, rfl, hy, hM, hc⟩ := av_sl Tryz.underlying61 h5 (by kernel_rfl) (z := 7) (by kernel_rfl)
        simp only [bulkAs_app, bulkAs_cons, bulkAs_nil, bulkA_int, bulkA_str, bulkA_bool] at hb hc hbk
        obtain ⟨ps, hps, hn⟩ := pats_in (L := L) fun a ha => pat_of n (hL a ha)
        obtain ⟨ls, hls, hm⟩ := exprs_in (L := M) fun a ha => ih n (by omega) (hM a ha) (by have := bulk_mem ha; omega)
        have hlen := nPs_len ps
        refine ⟨.mk k sp rc nm ps ls, by simp only [IsE]; exact ⟨x, _, y, _, rfl, hx, hps, hy, hls, by omega⟩, ?_⟩
        simp only [nE, bulkAs_app, bulkAs_cons, bulkAs_nil, bulkA_int, bulkA_str, bulkA_bool]
        omega
theorem bind_of {n : Nat} {cs : List AV} (h : AvOf Tryz.prog n 65 cs) (hbk : bulkAs cs ≤ 1048576) : ∃ d, IsD d (.agg cs) ∧ nPs d.ps + nE d.body ≤ bulkAs cs := by
  cases n with
  | zero => cases h
  | succ n =>
    simp only [AvOf, Tryz.underlying65] at h
    obtain ⟨a0, b0, rfl, h0, a1, b1, rfl, h1, a2, b2, rfl, h2, a3, b3, rfl, h3, rfl⟩ := h
    obtain ⟨sp, rfl⟩ := span_of h0
    obtain ⟨rc, rfl⟩ := av_bool Tryz.underlying4 h1
    cases n with
    | zero => cases h2
    | succ n =>
      obtain ⟨x, L, rfl, hx, hL, hb⟩ := av_sl Tryz.underlying60 h2 (by kernel_rfl) (z := 6) (by kernel_rfl)
      simp only [bulkAs_app, bulkAs_cons, bulkAs_nil, bulkA_int, bulkA_str, bulkA_bool] at hb hbk
      obtain ⟨ps, hps, hn⟩ := pats_in (L := L) fun a ha => pat_of n (hL a ha)
      obtain ⟨e, he, hm⟩ := expr_of _ h3 (by omega)
      refine ⟨⟨sp, rc, ps, e⟩, ⟨x, _, a3, by simp, hx, hps, he⟩, ?_⟩
      simp only [bulkAs_app, bulkAs_cons, bulkAs_nil, bulkA_int, bulkA_str, bulkA_bool]
      omega
theorem binds_in : ∀ {L : List (List AV)}, (∀ a ∈ L, ∃ d, IsD d (.agg a) ∧ nPs d.ps + nE d.body ≤ bulkAs a) → ∃ l, IsDs l (L.map .agg) ∧ nDs l ≤ bulkAs (L.map AV.agg)
  | [], _ => ⟨[], by simp only [IsDs, List.map_nil], by simp only [nDs]; exact Nat.zero_le _⟩
  | a :: L, h => by
    obtain ⟨p, hp, hn⟩ := h a List.mem_cons_self
    obtain ⟨ps, hps, hm⟩ := binds_in (L := L) fun b hb => h b (List.mem_cons_of_mem _ hb)
    refine ⟨p :: ps, by simp only [IsDs, List.map_cons]; exact ⟨_, _, rfl, hp, hps⟩, ?_⟩
    simp only [nDs, List.map_cons, bulkAs_cons, bulkA_agg]
    omega
theorem decls_of {n : Nat} {cs : List AV} (h : AvOf Tryz.prog n 22 cs) (hbk : bulkAs cs ≤ 1048576) : ∃ x l es, cs = [x] ∧ IsSl 11 x es ∧ IsDs l es ∧ nDs l ≤ bulkAs cs := by
  cases n with
  | zero => cases h
  | succ n =>
    obtain ⟨x, L, rfl, hx, hL, hb⟩ := av_sl Tryz.underlying22 h (by kernel_rfl) (z := 11) (by kernel_rfl)
    obtain ⟨l, hl, hn⟩ := binds_in (L := L) fun a ha => bind_of (hL a ha) (by have := bulk_mem ha; omega)
    exact ⟨x, l, _, rfl, hx, hl, by omega⟩
end Go.Proofs.YtoopmjhdgkcleaaGreatDoor.Vm
