/-
  (A part of the proof: ScopeQ, ScopeR, ScopeS, ScopeT, ScopeU, ScopeV, ScopeX, FG, ScopeY, ScopeZ, ScopeZL, ScopeW, ScopeArg.)
-/
import Derived.Test.YtoopmjhdgkcleaaGreatDoorVmCD
import Derived.Test.YtoopmjhdgkcleaaGreatDoorVmAA
import Derived.Test.YtoopmjhdgkcleaaGreatDoorVmBA
import Derived.Test.YtoopmjhdgkcleaaGreatDoorVmBB
import Derived.Test.YtoopmjhdgkcleaaGreatDoorVmCA
import Derived.KernelRfl
/- The law ScopeBehind. -/
set_option maxRecDepth 100000
set_option linter.unusedSimpArgs false
namespace Go.Proofs.YtoopmjhdgkcleaaGreatDoor.Vm
open Go Go.VM Go.Proofs Go.Scope

theorem callW1 {γ : Type} {F : FuncId} {z : Nat} {x : AV} {es : List AV} (hx : IsW z x es) {v : AV} (h : (orc vE).bare F [VM.strip x] = some v) (hf : vE.full F = false) (st : St) (K : Kv γ) : callS (orc vE) F [x] st K = K v st q0 := by
  have h1 : (bares (List.map VM.strip [x]) && !(orc vE).full F) = true := by
    show (bares [VM.strip x] && !vE.full F) = true
    rw [hf, bares_cons, hx.strip.bare]; rfl
  unfold callS outS callO
  rw [h1, show List.map VM.strip [x] = [VM.strip x] from rfl, h]
  rfl
theorem IsDs.app : ∀ {l m : List Bd} {es fs : List AV}, IsDs l es → IsDs m fs → IsDs (l ++ m) (es ++ fs)
  | [], m, _, fs, h, k => by simp only [IsDs] at h; subst h; exact k
  | d :: l, m, _, fs, h, k => by
    simp only [IsDs] at h
    obtain ⟨w, ws, rfl, hd, h⟩ := h
    simp only [List.cons_append, IsDs]
    exact ⟨w, _, rfl, hd, IsDs.app h k⟩
theorem nDs_len : ∀ (l : List Bd), l.length ≤ nDs l
  | [] => Nat.zero_le _
  | ⟨sp, rc, ps, .mk k s r nm qs ls⟩ :: l => by
    have := nDs_len l
    simp only [List.length_cons, nDs, nE]
    omega
/-- A slice, cut. -/
theorem cut_to {z : Nat} {x : AV} {es : List AV} (h : IsSl z x es) {m : Nat} (hm : m ≤ es.length) : ∃ x', IsSl z x' (es.take m) ∧ ∀ {β : Type} (K : AV → Option β), sliceS z x none (some (m : Int)) none K = K x' := by
  obtain ⟨x', h1, h2⟩ := h.cut (lo := none) (hi := some (m : Int)) (l := 0) (m := m) rfl (hiO_nat hm)
  exact ⟨x', by simpa using h1, h2⟩
end Go.Proofs.YtoopmjhdgkcleaaGreatDoor.Vm
/- Digits, names that stand nowhere, the longest name, uses, the same meanings. -/
set_option maxRecDepth 100000
set_option linter.unusedSimpArgs false
namespace Go.Proofs.YtoopmjhdgkcleaaGreatDoor.Vm
open Go Go.VM Go.Proofs Go.Scope

theorem digs_len (n : Nat) : (digs n).length ≤ n + 1 := by
  induction n using Nat.strongRecOn with
  | _ n ih =>
    rw [digs]
    split
    · simp
    · have := ih (n / 10) (by omega)
      rw [List.length_append, List.length_cons, List.length_nil]
      omega
theorem dig_small {m : Nat} (h : m < 10) : [UInt8.ofNat (Int.toNat (IntKind.wrap .u8 (IntKind.wrap .i64 (48 + (m : Int)))))] = digs m := by
  have : ∀ m : Nat, m < 10 → [UInt8.ofNat (Int.toNat (IntKind.wrap .u8 (IntKind.wrap .i64 (48 + (m : Int)))))] = [48 + UInt8.ofNat m] := by decide
  rw [digs, dif_pos h]
  exact this m h
theorem digits_ok (n : Nat) (hn : n ≤ 1000000000) : (orc vE).bare 30 [.int .i64 (n : Int)] = some (.str (digs n)) := by
  induction n using Nat.strongRecOn with
  | _ n ih =>
    refine Goes.eq (Goes.bare rfl (Goes.step (g30_eq _) ?_))
    by_cases h : n < 10
    · simp only [g30, asI_int, ifB_decide, if_pos (show (n : Int) < 10 by omega), letV_eq, dig_small h]
      exact Goes.some rfl
    · have h1 := ih (n / 10) (by omega) (by omega)
      have h2 := ih (n % 10) (by omega) (by omega)
      have c1 := fun {γ : Type} (st : St) (K : Kv γ) => callS_bare (E := vE) st K rfl rfl rfl h1
      have c2 := fun {γ : Type} (st : St) (K : Kv γ) => callS_bare (E := vE) st K rfl rfl rfl h2
      have d1 : Int.tdiv (n : Int) 10 = ((n / 10 : Nat) : Int) := rfl
      have d2 : Int.tmod (n : Int) 10 = ((n % 10 : Nat) : Int) := rfl
      have e : digs n = digs (n / 10) ++ digs (n % 10) := by
        rw [digs, dif_neg h]
        congr 1
        rw [digs, dif_pos (Nat.mod_lt _ (by omega))]
      have l1 := digs_len (n / 10)
      have l2 := digs_len (n % 10)
      have hc : Nat.ble ((digs (n / 10)).length + (digs (n % 10)).length) 9223372036854775807 = true := Nat.ble_eq_true_of_le (by omega)
      simp only [g30, asI_int, ifB_decide, if_neg (show ¬ (n : Int) < 10 by omega), letV_eq, d1, d2, wrapN (show n / 10 ≤ 9223372036854775807 by omega), c1, c2, asS_str, hc, chk_true]
      exact Goes.some (by rw [e])
theorem make_ms {n : Nat} (h1 : 1 ≤ n) (h : n ≤ 1000000) : makeSliceP (Env.T vE) 93 (.int .i64 (n : Int)) (.int .i64 (n : Int)) = .ok (.new (.cells 5 (ofBytes (List.replicate n 0))) fun k => .ms k 0 1 n n) := by
  have e1 : ti (Env.T vE) 93 = .ok ⟨.slice 5, 1, 24, [.nils], false, false⟩ := rfl
  have e2 : ti (Env.T vE) 5 = .ok ⟨.int .u8, 1, 1, [.int .u8 0], false, false⟩ := rfl
  have c : (Nat.ble n n && Nat.ble (n * 1) 16777216 && Nat.ble (1 * n) 281474976710656 && Nat.ble n 9223372036854775807 && Nat.ble 1 1) = true := by
    rw [Nat.ble_eq_true_of_le (Nat.le_refl n), Nat.ble_eq_true_of_le (show n * 1 ≤ 16777216 by omega), Nat.ble_eq_true_of_le (show 1 * n ≤ 281474976710656 by omega), Nat.ble_eq_true_of_le (show n ≤ 9223372036854775807 by omega)]; rfl
  have hb : n.beq 0 = false := by cases n with | zero => omega | succ n => rfl
  have h0 : makeSliceP (Env.T vE) 93 (.int .i64 (n : Int)) (.int .i64 (n : Int)) = (do let it ← ti (Env.T vE) 93; match it.und, AV.int .i64 (Int.ofNat n), AV.int .i64 (Int.ofNat n) with
    | .slice e, .int _ (.ofNat l), .int _ (.ofNat c) => do
      let i ← ti (Env.T vE) e
      match l.ble c && (c * i.size).ble 16777216 && (i.bytes * c).ble 281474976710656 && c.ble 9223372036854775807 && Nat.ble 1 i.size with
      | true => match l.beq 0 with
        | true => pure (Plan.new (.tok 0 e) fun k => .sl i.size [] (.own k))
        | false => pure (Plan.new (.cells e (zeros i.zero c)) fun k => .ms k 0 i.size l c)
      | false => .error "make: size"
    | _, _, _ => .error "make: what?" : Res Plan) := rfl
  rw [h0]
  simp only [e1, e2, ok_bind, c, hb, zeros_bytes, pure_eq]
theorem conv_ms {id n : Nat} {T : TypeId} {s : List UInt8} {st : St} (hg : st.get id = .ok (.cells T (ofBytes s))) (hl : s.length = n) {β : Type} (K : Kv β) : planS (orc vE) (convertP (Env.T vE) 93 9 (.ms id 0 1 n n)) st K = K (.str s) st ⟨[id], .kept⟩ := by
  have e1 : ti (Env.T vE) 93 = .ok ⟨.slice 5, 1, 24, [.nils], false, false⟩ := rfl
  have e2 : ti (Env.T vE) 9 = .ok ⟨.str, 1, 16, [.str []], false, false⟩ := rfl
  have e3 : ti (Env.T vE) 5 = .ok ⟨.int .u8, 1, 1, [.int .u8 0], false, false⟩ := rfl
  have hl' : (ofBytes s).length = n := by rw [ofBytes, List.length_map]; exact hl
  have hb : n.ble (ofBytes s).length = true := by rw [hl']; exact Nat.ble_eq_true_of_le (Nat.le_refl n)
  have ht : (ofBytes s).take n = ofBytes s := by rw [← hl', List.take_length]
  simp only [convertP, e1, e2, e3, ok_bind, isByte, pure_eq, planS, VM.outS, planO, readP, hg, cellsOf, List.drop_zero, hb, ht, bytesOf_bytes, bindO_ok]
theorem fresh_ok {long i : Nat} (hl : long ≤ 5000) (hi : i ≤ 1000000000) : (orc vE).bare 17 [.int .i64 (long : Int), .int .i64 (i : Int)] = some (.str (fresh long i)) := by
  refine Goes.eq (Goes.bare rfl (Goes.step (g17_eq _ _) ?_))
  have pm := fun {β : Type} (st : St) (K : Kv β) => show planS (orc vE) (makeSliceP (Env.T vE) 93 (.int .i64 ((long + 1 : Nat) : Int)) (.int .i64 ((long + 1 : Nat) : Int))) st K = K (.ms st.h 0 1 (long + 1) (long + 1)) (st.add (.cells 5 (ofBytes (List.replicate (long + 1) 0)))) ⟨[], .made st.h (.cells 5 (ofBytes (List.replicate (long + 1) 0)))⟩ by
    rw [make_ms (by omega) (by omega), planS_new]
  simp only [g17, asI_int, letV_eq, wrapA1 (show long + 1 ≤ 9223372036854775807 by omega), pm]
  generalize hn : long + 1 = n
  refine Goes.bind (R := fun c => ∃ s k, c = (k, [], s) ∧ s.get 0 = .ok (.cells 5 (ofBytes (List.replicate n 122))))
    (Goes.upto (n := n) (I := fun j q => ∃ s, q = ([.int .i64 (j : Int)], s) ∧ s.get 0 = .ok (.cells 5 (ofBytes (List.replicate j 122 ++ List.replicate (n - j) 0))) ∧ s.ro = 0) ?_ ?_ n 0 _ (by omega)
      ⟨_, rfl, by rw [Nat.sub_zero]; exact rfl, rfl⟩) ?_
  · rintro j q hj ⟨s, rfl, hg, hro⟩
    have hlt : (j : Int) < (n : Int) := by omega
    have hlen : ∀ {β : Type} (K : Nat → Option β), lenS (.ms (St.mk 0 0 Tr.leaf).h 0 1 n n) K = K n := fun K => rfl
    have hg' : s.get 0 = .ok (.cells 5 (flat (ofBytes (List.replicate j 122 ++ List.replicate (n - j) 0)))) := by rw [flat_bytes]; exact hg
    obtain ⟨f1, hf1, b1⟩ := store_el (O := orc vE) (bytes_els _) hg' (by omega) (k := j) (w := .int .u8 (((122 : UInt8).toNat : Nat) : Int)) (by rw [ofBytes, List.length_map, List.length_append, List.length_replicate, List.length_replicate]; omega) rfl
    have hset : (ofBytes (List.replicate j 122 ++ List.replicate (n - j) 0)).set j (.int .u8 (((122 : UInt8).toNat : Nat) : Int)) = ofBytes (List.replicate (j + 1) 122 ++ List.replicate (n - (j + 1)) 0) := by
      unfold ofBytes
      rw [show (AV.int .u8 (((122 : UInt8).toNat : Nat) : Int)) = (fun b : UInt8 => AV.int .u8 (b.toNat : Int)) 122 from rfl, ← List.map_set, List.set_append_right _ _ (by simp), List.length_replicate, Nat.sub_self, show n - j = (n - (j + 1)) + 1 by omega, List.replicate_succ, List.set_cons_zero, List.replicate_succ' (n := j), List.append_assoc]
      rfl
    rw [hset] at b1
    have i1 := fun {β : Type} (st : St) (K : AV → List Nat → Option β) => idx_ms (z := 1) (id := 0) (c := n) (show j < n by omega) st K
    have i1 : ∀ {β : Type} (st : St) (K : AV → List Nat → Option β), idxA 1 (.ms (St.mk 0 0 Tr.leaf).h 0 1 n n) (j : Int) st K = K (.mp 0 (j * 1)) [] := fun st K => i1 st K
    have b1 : ∀ {β : Type} (K : Kv β), storeS (orc vE) 1 (.mp 0 (j * 1)) (.int .u8 122) [.int .u8 122] s K = K VM.undef (s.put 0 (.cells 5 (flat (ofBytes (List.replicate (j + 1) 122 ++ List.replicate (n - (j + 1)) 0))))) f1 := fun K => b1 K
    simp only [g17_L1, unc_cons, asI_int, un0_nil, hlen, ifB_decide, if_pos hlt, i1, b1, letV_eq, wrapA1 (show j + 1 ≤ 9223372036854775807 by omega)]
    refine Goes.inl ?_
    exact ⟨_, rfl, by rw [St.get_put_same (St.get_ok.1 hg).1, flat_bytes], hro⟩
  · rintro q ⟨s, rfl, hg, hro⟩
    have hlen : ∀ {β : Type} (K : Nat → Option β), lenS (.ms (St.mk 0 0 Tr.leaf).h 0 1 n n) K = K n := fun K => rfl
    have hlt : ¬ (n : Int) < (n : Int) := by omega
    rw [Nat.sub_self, List.replicate_zero, List.append_nil] at hg
    simp only [g17_L1, unc_cons, asI_int, un0_nil, hlen, ifB_decide, if_neg hlt]
    refine Goes.inr ?_
    exact ⟨_, _, rfl, hg⟩
  · rintro c ⟨s, k, rfl, hg⟩
    have cv : ∀ {β : Type} (K : Kv β), planS (orc vE) (convertP (Env.T vE) 93 9 (.ms (St.mk 0 0 Tr.leaf).h 0 1 n n)) s K = K (.str (List.replicate n 122)) s ⟨[0], .kept⟩ := fun K => conv_ms hg (by simp) K
    have c1 := fun {γ : Type} (st : St) (K : Kv γ) => callS_bare (E := vE) st K rfl rfl rfl (digits_ok i hi)
    have l2 := digs_len i
    have hc : Nat.ble ((List.replicate n (122 : UInt8)).length + (digs i).length) 9223372036854775807 = true := Nat.ble_eq_true_of_le (by rw [List.length_replicate]; omega)
    have a1 : apart (Fx.mk [0] .kept) (Fx.mk [] .kept) = true := rfl
    simp only [un0_nil, cv, asS_str, letV_eq, c1, a1, apart_kept, apart_kept2, Bool.and_self, chk_true, hc]
    refine Goes.some ?_
    rw [← hn]; rfl
theorem longest_ok {t : Tb} {v : AV} (hv : IsTb t v) : Goes ((orc vE).bare 16 [v]) fun r => ∃ n : Nat, r = .int .i64 (n : Int) ∧ Long t n := by
  obtain ⟨yb, yu, yt, rfl, hb, hu, ht⟩ := hv
  have hbl := hb.1
  have hul := hu.1
  rw [encB_len] at hbl
  rw [encU_len] at hul
  have lb := fun {γ : Type} (K : Nat → Option γ) => hb.len K
  simp only [encB_len] at lb
  have lu := fun {γ : Type} (K : Nat → Option γ) => hu.len K
  simp only [encU_len] at lu
  refine Goes.bare rfl (Goes.step (g16_eq _) ?_)
  simp only [g16, unA_agg, unc_cons, un0_nil, hb.asOne, hu.asOne, ht.asOne, hb.fit1, hu.fit1, ht.fit1]
  refine Goes.bind (R := fun c => ∃ (k n : Nat), c = (k, [.int .i64 (n : Int)], S0) ∧ ∀ b ∈ t.bs, b.1.length ≤ n) (Goes.upto (n := t.bs.length) (I := fun i s => ∃ n : Nat, s = ([.int .i64 (n : Int), .int .i64 (i : Int)], S0) ∧ ∀ b ∈ t.bs.take i, b.1.length ≤ n) ?_ ?_ t.bs.length 0 _ (by omega) ⟨5, rfl, fun _ h => by simp at h⟩) ?_
  · rintro i s hi ⟨n, rfl, hn⟩
    have hlt : (i : Int) < (t.bs.length : Int) := by omega
    have hget : t.bs[i]? = some t.bs[i] := List.getElem?_eq_getElem hi
    have hi1 := fun {γ : Type} (s : St) (K : AV → List Nat → Option γ) => hb.idx (encB_get hget) s K
    simp only [g16_L1, unc_cons, asI_int, un0_nil, lb, ifB_decide, if_pos hlt, hi1, AV.cells, fldA_ip, List.drop_zero, loadS_ip, takeO_one, bindO_ok, asS_str, letV_eq, wrap1 hi hbl]
    refine Goes.inl ?_
    refine ⟨max n t.bs[i].1.length, ?_, fun b hm => ?_⟩
    · congr 3
      split <;> congr 1 <;> omega
    · rw [List.take_add_one, hget] at hm
      rcases List.mem_append.1 hm with hm | hm
      · have := hn b hm; omega
      · simp at hm; subst hm; omega
  · rintro s ⟨n, rfl, hn⟩
    have hlt : ¬ (t.bs.length : Int) < (t.bs.length : Int) := by omega
    rw [List.take_length] at hn
    simp only [g16_L1, unc_cons, asI_int, un0_nil, lb, ifB_decide, if_neg hlt]
    refine Goes.inr ?_
    exact ⟨_, n, rfl, hn⟩
  rintro c ⟨k, n, rfl, hn⟩
  simp only [unc_cons, asI_int, un0_nil]
  refine Goes.bind (R := fun c => ∃ (k n : Nat), c = (k, [.int .i64 (n : Int)], S0) ∧ (∀ b ∈ t.bs, b.1.length ≤ n) ∧ ∀ u ∈ t.us, u.1.length ≤ n) (Goes.upto (n := t.us.length) (I := fun i s => ∃ n : Nat, s = ([.int .i64 (n : Int), .int .i64 (i : Int)], S0) ∧ (∀ b ∈ t.bs, b.1.length ≤ n) ∧ ∀ u ∈ t.us.take i, u.1.length ≤ n) ?_ ?_ t.us.length 0 _ (by omega) ⟨n, rfl, hn, fun _ h => by simp at h⟩) ?_
  · rintro i s hi ⟨n, rfl, hn, hm⟩
    have hlt : (i : Int) < (t.us.length : Int) := by omega
    have hget : t.us[i]? = some t.us[i] := List.getElem?_eq_getElem hi
    have hi1 := fun {γ : Type} (s : St) (K : AV → List Nat → Option γ) => hu.idx (encU_get hget) s K
    simp only [g16_L2, unc_cons, asI_int, un0_nil, lu, ifB_decide, if_pos hlt, hi1, AV.cells, fldA_ip, List.drop_zero, loadS_ip, takeO_one, bindO_ok, asS_str, letV_eq, wrap1 hi hul]
    refine Goes.inl ?_
    refine ⟨max n t.us[i].1.length, ?_, fun b hb => ?_, fun b hq => ?_⟩
    · congr 3
      split <;> congr 1 <;> omega
    · have := hn b hb; omega
    · rw [List.take_add_one, hget] at hq
      rcases List.mem_append.1 hq with hq | hq
      · have := hm b hq; omega
      · simp at hq; subst hq; omega
  · rintro s ⟨n, rfl, hn, hm⟩
    have hlt : ¬ (t.us.length : Int) < (t.us.length : Int) := by omega
    rw [List.take_length] at hm
    simp only [g16_L2, unc_cons, asI_int, un0_nil, lu, ifB_decide, if_neg hlt]
    refine Goes.inr ?_
    exact ⟨_, n, rfl, hn, hm⟩
  rintro c ⟨k2, n2, rfl, h1, h2⟩
  simp only [unc_cons, asI_int, un0_nil]
  exact Goes.some ⟨n2, rfl, h1, h2⟩
theorem neq_S (a b : Int) : toO (VM.binOp (Env.T vE) BinOp.neq 32 (.agg [.int .i64 a, .int .i64 b]) (.agg [.int .i64 a, .int .i64 b])) = some (.bool false) := by
  have h : VM.binOp (Env.T vE) BinOp.neq 32 (.agg [.int .i64 a, .int .i64 b]) (.agg [.int .i64 a, .int .i64 b]) = (do pure (.bool !(← eqT (Env.T vE) 20 32 (.agg [.int .i64 a, .int .i64 b]) (.agg [.int .i64 a, .int .i64 b])))) := rfl
  have e : eqT (Env.T vE) 20 32 (.agg [.int .i64 a, .int .i64 b]) (.agg [.int .i64 a, .int .i64 b]) = .ok true := by
    have h : eqT (Env.T vE) 20 32 (.agg [.int .i64 a, .int .i64 b]) (.agg [.int .i64 a, .int .i64 b]) = (match a == a with | true => (match b == b with | true => .ok true | false => .ok false) | false => .ok false) := rfl
    rw [h, beq_self_eq_true, beq_self_eq_true]
  rw [h, e]; rfl
theorem means_same {t u : Tb} {v w : AV} (hv : IsTb t v) (hw : IsTb u w) (hb : u.bs.length = t.bs.length) (hu : u.us.map (·.2) = t.us.map (·.2)) : Goes ((orc vE).bare 19 [v, w]) (· = .bool true) := by
  obtain ⟨xb, xu, xt, rfl, hxb, hxu, hxt⟩ := hv
  obtain ⟨yb, yu, yt, rfl, hyb, hyu, hyt⟩ := hw
  have hul := hxu.1
  rw [encU_len] at hul
  have hlu : u.us.length = t.us.length := by simpa using congrArg List.length hu
  have lxb := fun {γ : Type} (K : Nat → Option γ) => hxb.len K
  have lyb := fun {γ : Type} (K : Nat → Option γ) => hyb.len K
  have lxu := fun {γ : Type} (K : Nat → Option γ) => hxu.len K
  have lyu := fun {γ : Type} (K : Nat → Option γ) => hyu.len K
  simp only [encB_len, hb] at lxb lyb
  simp only [encU_len, hlu] at lxu lyu
  refine Goes.bare rfl (Goes.step (g19_eq _ _) ?_)
  simp only [g19, unA_agg, unc_cons, un0_nil, hxb.asOne, hxu.asOne, hxt.asOne, hyb.asOne, hyu.asOne, hyt.asOne, hxb.fit1, hxu.fit1, hxt.fit1, hyb.fit1, hyu.fit1, hyt.fit1, lxb, lyb, lxu, lyu, bne_self_eq_false, ifB_false, bindO_ok, asB_bool]
  refine Goes.bind (R := fun c => ∃ b, c = (0, [.bool b], S0)) (Goes.upto (n := t.us.length) (I := fun i s => s = ([.bool false, .int .i64 (i : Int)], S0)) ?_ ?_ t.us.length 0 _ (by omega) rfl) ?_
  · rintro i s hi rfl
    have hlt : (i : Int) < (t.us.length : Int) := by omega
    have hget : t.us[i]? = some t.us[i] := List.getElem?_eq_getElem hi
    have hget2 : u.us[i]? = some u.us[i] := List.getElem?_eq_getElem (by omega)
    have hsame : u.us[i].2 = t.us[i].2 := by
      have h1 : (u.us.map (·.2))[i]? = (t.us.map (·.2))[i]? := by rw [hu]
      rw [List.getElem?_map, List.getElem?_map, hget, hget2] at h1
      simpa using h1
    have take2' : ∀ {a b c : AV}, takeO 2 true [a, b, c] = some (.agg [a, b]) := take2b
    have hs1 : u.us[i].2.2 = t.us[i].2.2 := by rw [hsame]
    have hs2 : u.us[i].2.1.1 = t.us[i].2.1.1 := by rw [hsame]
    have hs3 : u.us[i].2.1.2 = t.us[i].2.1.2 := by rw [hsame]
    simp only [g19_L1, unc_cons, asI_int, asB_bool, asS_str, un0_nil, lxu, ifB_decide, if_pos hlt, hxu.idx (encU_get hget), hyu.idx (encU_get hget2), hs1, hs2, hs3, AV.cells, fldA_ip, List.drop_succ_cons, List.drop_zero, loadS_ip, takeO_one, take2', unA_agg, bindO_ok, bne_self_eq_false, ifB_false, neq_S, letV_eq, wrap1 hi hul]
    refine Goes.inl ?_
    rfl
  · rintro s rfl
    have hlt : ¬ (t.us.length : Int) < (t.us.length : Int) := by omega
    simp only [g19_L1, unc_cons, asI_int, asB_bool, un0_nil, lxu, ifB_decide, if_neg hlt]
    refine Goes.inr ?_
    exact ⟨_, rfl⟩
  rintro c ⟨b, rfl⟩
  simp only [unc_cons, asB_bool, un0_nil, sel2_zero]
  exact Goes.some rfl
/-- The uses that mean a binder: none, just if none means it. -/
theorem lvU (st : St) (nm : Tx) (a b k : Int) (h : st.ro ≤ st.h) : ∃ st' fx, st'.get st.h = .ok (.cells 34 [.str nm, .int .i64 a, .int .i64 b, .int .i64 k]) ∧ Keeps st st' (fun _ => False) ∧
    ∀ {β : Type} (K : Kv β), storeS (orc vE) 4 (AV.mp st.h 0) (.agg [.str nm, .int .i64 a, .int .i64 b, .int .i64 k]) [.str nm, .int .i64 a, .int .i64 b, .int .i64 k] (st.add (.cells 34 [.str [], .int .i64 0, .int .i64 0, .int .i64 0])) K = K VM.undef st' fx := by
  obtain ⟨st', g, k1, n, fx, e⟩ := local_var (O := orc vE) (st := st) (t := 34) (z := 4) (old := [.str [], .int .i64 0, .int .i64 0, .int .i64 0]) (cs := [.str nm, .int .i64 a, .int .i64 b, .int .i64 k]) (.agg [.str nm, .int .i64 a, .int .i64 b, .int .i64 k]) rfl rfl h
  exact ⟨st', fx, g, k1, e⟩
theorem uses_ok {t : Tb} {v : AV} (hv : IsTb t v) (hsm : Sm t) (k : Int) : Goes ((orc vE).bare 15 [v, .int .i64 k]) fun r => ∃ es, IsSl 1 r es ∧ (es = [] → ∀ u ∈ t.us, u.2.2 ≠ k) := by
  obtain ⟨yb, yu, yt, rfl, hb, hu, ht⟩ := hv
  have hul := hu.1
  rw [encU_len] at hul
  have lu := fun {γ : Type} (K : Nat → Option γ) => hu.len K
  simp only [encU_len] at lu
  have hus := hsm.us
  refine Goes.bare rfl (Goes.step (g15_eq _ _) ?_)
  simp only [g15, unA_agg, unc_cons, un0_nil, asI_int, hb.asOne, hu.asOne, ht.asOne, hb.fit1, hu.fit1, ht.fit1, lu]
  refine Goes.bind (R := fun c => ∃ k2 x s es, c = (k2, [x], s) ∧ Own s 1 3 x es ∧ (es = [] → ∀ u ∈ t.us, u.2.2 ≠ k))
    (Goes.upto (n := t.us.length) (I := fun i q => ∃ x s es, q = ([x, .int .i64 (i : Int)], s) ∧ Own s 1 3 x es ∧ es.length ≤ i ∧ (es = [] → ∀ u ∈ t.us.take i, u.2.2 ≠ k)) ?_ ?_ t.us.length 0 _ (by omega)
      ⟨.nils, _, [], rfl, Own.nils (Nat.zero_le _) _ _, Nat.le_refl _, fun _ u hu => by simp at hu⟩) ?_
  · rintro i q hi ⟨x, s, es, rfl, o, hl, hk⟩
    have hlt : (i : Int) < (t.us.length : Int) := by omega
    have hget : t.us[i]? = some t.us[i] := List.getElem?_eq_getElem hi
    have hi1 := fun {γ : Type} (s : St) (K : AV → List Nat → Option γ) => hu.idx (encU_get hget) s K
    have take4 : ∀ {a b c d : AV}, takeO 4 true [a, b, c, d] = some (.agg [a, b, c, d]) := takeO_all rfl
    obtain ⟨s2, fx, g2, k2, e2⟩ := lvU s t.us[i].1 t.us[i].2.1.1 t.us[i].2.1.2 t.us[i].2.2 o.1
    have o2 := own_keep o k2 (fun _ _ f => f)
    simp only [g15_L1, unc_cons, asI_int, un0_nil, ifB_decide, if_pos hlt, hi1, AV.cells, loadS_ip, take4, bindO_ok, unA_agg, asS_str, letSt_eq, e2, loadS_mp g2, List.drop_succ_cons, List.drop_zero, takeO_one]
    by_cases hkk : t.us[i].2.2 = k
    · obtain ⟨v', s3, fx3, e3, o3, k3, _⟩ := app_own (b := 8) (new := [.int .i64 (i : Int)]) o2 (by simp) (room_of (by simp; omega) (by omega) (by omega))
      have e3' := fun {γ : Type} (K : Kv γ) => appS_of e3 K
      have hb : (t.us[i].2.2 == k) = true := by rw [hkk]; exact beq_self_eq_true _
      simp only [hb, ifB_true, e3', bindO_ok, unc_cons, un0_nil, letV_eq, wrap1 hi hul]
      refine Goes.inl ?_
      exact ⟨v', s3, _, rfl, o3, by simp; omega, fun h => by simp at h⟩
    · have hb : (t.us[i].2.2 == k) = false := by rw [beq_eq_false_iff_ne]; exact hkk
      simp only [hb, ifB_false, bindO_ok, unc_cons, un0_nil, letV_eq, wrap1 hi hul]
      refine Goes.inl ?_
      refine ⟨x, s2, es, rfl, o2, by omega, fun h u hm => ?_⟩
      rw [List.take_add_one, hget] at hm
      rcases List.mem_append.1 hm with hm | hm
      · exact hk h u hm
      · simp at hm; subst hm; exact hkk
  · rintro q ⟨x, s, es, rfl, o, hl, hk⟩
    have hlt : ¬ (t.us.length : Int) < (t.us.length : Int) := by omega
    rw [List.take_length] at hk
    simp only [g15_L1, unc_cons, asI_int, un0_nil, ifB_decide, if_neg hlt]
    refine Goes.inr ?_
    exact ⟨_, x, s, es, rfl, o, hk⟩
  · rintro c ⟨k2, x, s, es, rfl, o, hk⟩
    obtain ⟨y, hy, ef⟩ := frz_own (β := AV) o
    simp only [unc_cons, un0_nil, oneOf_one, ef]
    exact Goes.some ⟨es, hy, hk⟩
end Go.Proofs.YtoopmjhdgkcleaaGreatDoor.Vm
/- The renamer: patterns. -/
set_option maxRecDepth 100000
set_option linter.unusedSimpArgs false
namespace Go.Proofs.YtoopmjhdgkcleaaGreatDoor.Vm
open Go Go.VM Go.Proofs Go.Scope

theorem keeps_join {a b c : St} {p q : Nat → Prop} (h : Keeps a b p) (k : Keeps b c q) (hq : ∀ j, q j → p j ∨ a.h ≤ j) : Keeps a c p :=
  ⟨k.ro.trans h.ro, Nat.le_trans h.h k.h, fun j o hj hg => k.old j o (fun f => by
    rcases hq j f with h1 | h1
    · exact hj h1
    · have := (St.get_ok.1 hg).1
      omega) (h.old j o hj hg)⟩
theorem keeps_weak {a b : St} {p q : Nat → Prop} (h : Keeps a b p) (k : ∀ j, p j → q j) : Keeps a b q := ⟨h.ro, h.h, fun j o hj => h.old j o fun f => hj (k j f)⟩
/-- Names, in a slice that may be written. -/
def Nm (st : St) (nv : AV) (nms : List Tx) : Prop := (nms = [] ∧ nv = .nils) ∨ ∃ k, nv = .gs k 1 nms.length ∧ st.get k = .ok (.row nms.length 9 1 (nms.map AV.str))
section
variable {st s : St} {nv : AV} {nms : List Tx}
theorem Nm.len (h : Nm st nv nms) {β : Type} (K : Nat → Option β) : lenS nv K = K nms.length := by
  rcases h with ⟨rfl, rfl⟩ | ⟨k, rfl, _⟩ <;> rfl
theorem Nm.one (h : Nm st nv nms) : VM.one nv = true := by
  rcases h with ⟨rfl, rfl⟩ | ⟨k, rfl, _⟩ <;> rfl
theorem Nm.idx (h : Nm st nv nms) {i : Nat} (hi : i < nms.length) : ∃ av rd rd2, (∀ {β : Type} (K : AV → List Nat → Option β), idxA 1 nv (i : Int) st K = K av rd) ∧ ∀ {β : Type} (K : AV → List Nat → Option β), loadS 1 false av st K = K (.str (nms.getD i [])) rd2 := by
  rcases h with ⟨rfl, rfl⟩ | ⟨k, rfl, hg⟩
  · simp at hi
  · refine ⟨.gp k nms.length (i * 1), [k], [k], fun K => ?_, fun K => ?_⟩
    · have h1 : insideO ((i : Nat) : Int) nms.length = some i := by
        show (match i.blt nms.length with | true => some i | false => none) = _
        rw [blt_true.2 hi]
      simp only [idxA, idxO, h1, hg, Nat.beq_refl]
      rfl
    · have h3 : (nms.map AV.str).drop (i * 1) = .str (nms.getD i []) :: (nms.map AV.str).drop (i + 1) := by
        rw [Nat.mul_one, List.drop_eq_getElem_cons (by simpa using hi)]
        simp [List.getD_eq_getElem?_getD, List.getElem?_eq_getElem hi]
      simp only [loadS, loadO, hg, Nat.beq_refl, h3, takeCells, bindO_ok]
theorem Nm.keep (h : Nm st nv nms) {but : Nat → Prop} (k : Keeps st s but) (hb : ∀ j n e z cs, st.get j = .ok (.row n e z cs) → ¬ but j) : Nm s nv nms := by
  rcases h with h | ⟨i, h, hg⟩
  · exact .inl h
  · exact .inr ⟨i, h, k.old _ _ (hb _ _ _ _ _ hg) hg⟩
end
structure Rn (st : St) (a : Nat) (yb yu yt nv : AV) (us : List (Tx × Sp × Int)) (nms : List Tx) (b u : Nat) : Prop where
  g : st.get a = .ok (.cells 97 [yb, yu, yt, nv, .int .i64 (b : Int), .int .i64 (u : Int)])
  hu : IsSl 4 yu (encU us)
  nm : Nm st nv nms
  ro : st.ro ≤ a
  roh : st.ro ≤ st.h
  len : nms.length ≤ 1000000000
section
variable {st s : St} {a : Nat} {yb yu yt nv : AV} {us : List (Tx × Sp × Int)} {nms : List Tx} {b u : Nat}
theorem Rn.lt (w : Rn st a yb yu yt nv us nms b u) : a < st.h := (St.get_ok.1 w.g).1
theorem Rn.keep (w : Rn st a yb yu yt nv us nms b u) {but : Nat → Prop} (k : Keeps st s but) (ha : ¬ but a) (hb : ∀ j n e z cs, st.get j = .ok (.row n e z cs) → ¬ but j) : Rn s a yb yu yt nv us nms b u :=
  ⟨k.old _ _ ha w.g, w.hu, w.nm.keep k hb, by rw [k.ro]; exact w.ro, by rw [k.ro]; exact Nat.le_trans w.roh k.h, w.len⟩
theorem Rn.new (w : Rn st a yb yu yt nv us nms b u) (k : Keeps st s (fun _ => False)) : Rn s a yb yu yt nv us nms b u := w.keep k (fun f => f) (fun _ _ _ _ _ _ f => f)
theorem own_row {z z' n : Nat} {e e' : TypeId} {v : AV} {es cs : List AV} {j : Nat} (o : Own st z e v es) (hg : st.get j = .ok (.row n e' z' cs)) : ¬ ownerOf v j := by
  rintro ⟨z', es', rfl⟩
  rcases o.2.2 with ⟨h1 | h1, _⟩ | h1 | ⟨k', h1, h2, _⟩
  · cases h1
  · cases h1
  · cases h1
  · cases h1
    rw [hg] at h2
    cases h2
theorem Rn.own (w : Rn st a yb yu yt nv us nms b u) {z : Nat} {e : TypeId} {v : AV} {es : List AV} (o : Own st z e v es) (k : Keeps st s (ownerOf v)) : Rn s a yb yu yt nv us nms b u := w.keep k (o.not w.g) (fun _ _ _ _ _ hg => own_row o hg)
/-- A local one is written. -/
theorem Rn.loc (w : Rn st a yb yu yt nv us nms b u) {j : Nat} {t t' : TypeId} {old cs : List AV} (hj : st.get j = .ok (.cells t old)) (ha : a ≠ j) : Rn (st.put j (.cells t' cs)) a yb yu yt nv us nms b u :=
  w.keep (Keeps.put (but := (· = j)) rfl) ha fun i n e z cs hg hi => by
    have hi : i = j := hi
    subst hi; rw [hj] at hg; cases hg
theorem Rn.setB (w : Rn st a yb yu yt nv us nms b u) (b' u' : Nat) : Rn (st.put a (.cells 97 [yb, yu, yt, nv, .int .i64 (b' : Int), .int .i64 (u' : Int)])) a yb yu yt nv us nms b' u' :=
  ⟨St.get_put_same w.lt, w.hu, w.nm.keep (Keeps.put (but := (· = a)) rfl) (fun i n e z cs hg hi => by
    have hi : i = a := hi
    subst hi; rw [w.g] at hg; cases hg), w.ro, w.roh, w.len⟩
end
theorem own_ne {st : St} {z : Nat} {e t : TypeId} {v : AV} {es cs : List AV} {a : Nat} (o : Own st z e v es) (hg : st.get a = .ok (.cells t cs)) : ∀ j, ownerOf v j → ¬ (j = a) := fun j hj h => by
  subst h; exact o.not hg hj
theorem rpats_ok (N : Nat) (hN : N ≤ 4000000) : ∀ (n : Nat) (ps : List Pat) (es : List AV) (x : AV) (st : St) (a : Nat) (yb yu yt nv : AV) (us : List (Tx × Sp × Int)) (nms : List Tx) (b u : Nat), SizeOf.sizeOf ps < n → IsPs ps es → IsSl 6 x es →
    Rn st a yb yu yt nv us nms b u → b + nPs ps ≤ N →
    Goes ((orc vE).wide 31 [.mp a 0, x] st) fun r => ∃ v s fs, r = (v, s) ∧ Own s 6 101 v fs ∧ IsPs (renPs nms ps b).1 fs ∧ Rn s a yb yu yt nv us nms (renPs nms ps b).2 u ∧ Keeps st s (· = a) := by
  intro n
  induction n with
  | zero => intro ps es x st a yb yu yt nv us nms b u h; omega
  | succ n ih =>
    intro ps es x st a yb yu yt nv us nms b u h hp hx w hb
    have hxl := hx.1
    refine Goes.wide (Goes.step (w31_eq _ _ _) ?_)
    unfold w31
    refine Goes.bind (R := fun c => ∃ v s fs k, c = (k, [v], s) ∧ Own s 6 101 v fs ∧ IsPs (renPs nms ps b).1 fs ∧ Rn s a yb yu yt nv us nms (renPs nms ps b).2 u ∧ Keeps st s (· = a))
      (Goes.upto (n := es.length) (I := fun i q => ∃ v s fs pre bi, q = ([v, .int .i64 (i : Int)], s) ∧ Own s 6 101 v fs ∧ (∀ j, ownerOf v j → st.h ≤ j) ∧ IsPs pre fs ∧ pre.length = i ∧ Rn s a yb yu yt nv us nms bi u ∧ Keeps st s (· = a) ∧
        renPs nms ps b = (pre ++ (renPs nms (ps.drop i) bi).1, (renPs nms (ps.drop i) bi).2) ∧ bi + nPs (ps.drop i) ≤ N) ?_ ?_ es.length 0 _ (by omega)
        ⟨.nils, st, [], [], b, rfl, Own.nils w.roh _ _, (fun j hj => by obtain ⟨_, _, h⟩ := hj; cases h), IsPs.nil, rfl, w, Keeps.refl _ _, rfl, hb⟩) ?_
    · rintro i q hi ⟨v, s, fs, pre, bi, rfl, o, ho, hpre, hlen, w1, k1, hren, hcnt⟩
      obtain ⟨p, r, hd⟩ := drop_at (l := ps) (i := i) (by rw [← hp.len]; exact hi)
      obtain ⟨pv, hv, hP, hil⟩ := hp.get hd
      have hr2 := (drop_cons hd).2.1
      cases p with
      | mk k lit sp nm qs =>
        obtain ⟨y, gs, rfl, hy, hq⟩ := hP.opn
        have hsz : SizeOf.sizeOf qs < n := by
          have h1 := sz_drop ps i
          rw [hd] at h1
          simp only [List.cons.sizeOf_spec, Pat.mk.sizeOf_spec] at h1
          omega
        rw [hd] at hren hcnt
        simp only [nPs, nP] at hcnt
        have hlt : (i : Int) < (es.length : Int) := by omega
        obtain ⟨s2, fx2, g2, k2, e2⟩ := lvP s k lit sp nm y w1.roh
        have w2 := w1.new k2
        have hal : a ≠ s.h := by have := w1.lt; omega
        have hi1 := fun {γ : Type} (s : St) (K : AV → List Nat → Option γ) => hx.idx hv s K
        simp only [w31_L1, unc_cons, asI_int, un0_nil, hx.len, ifB_decide, if_pos hlt, hi1, AV.cells, loadS_ip, take6, bindO_ok, unA_agg, asS_str, letSt_eq, hy.asOne, e2, loadS_mp g2, List.drop_zero, takeO_one]
        refine Goes.bind (R := fun c => ∃ s4, c = ([], s4) ∧ s4.get s.h = .ok (.cells 101 [.int .u8 (k : Int), .int .u8 (lit : Int), .int .i64 sp.1, .int .i64 sp.2, .str (if k = 15 then nmAt nms bi nm else nm), y]) ∧
          Rn s4 a yb yu yt nv us nms (if k = 15 then bi + 1 else bi) u ∧ Keeps s s4 (· = a)) ?_ ?_
        · by_cases hk : k = 15
          · have hkb : (((k : Nat) : Int) == 15) = true := by rw [hk]; rfl
            simp only [hkb, ifB_true, notNil_mp, chk_true, fldA_mp, Nat.zero_add, loadS_mp w2.g, List.drop_succ_cons, List.drop_zero, takeO_one, bindO_ok, asI_int, w2.nm.len]
            refine Goes.bind (R := fun c => ∃ s3, c = ([], s3) ∧ s3.get s.h = .ok (.cells 101 [.int .u8 (k : Int), .int .u8 (lit : Int), .int .i64 sp.1, .int .i64 sp.2, .str (nmAt nms bi nm), y]) ∧ Rn s3 a yb yu yt nv us nms bi u ∧ Keeps s s3 (· = a)) ?_ ?_
            · by_cases hbn : bi < nms.length
              · obtain ⟨av, rd, rd2, i1, i2⟩ := w2.nm.idx hbn
                have e3 := fun {γ : Type} (K : Kv γ) => storeS_at (O := orc vE) (cs := [.str (nms.getD bi [])]) (z := 1) (off := 4) (v := .str (nms.getD bi [])) g2 rfl (Nat.le_of_ble_eq_true rfl) (by rw [k2.ro]; exact w1.roh) K
                simp only [ifB_decide, if_pos (show (bi : Int) < (nms.length : Int) by omega), i1, i2, asS_str, e3]
                refine Goes.some ⟨_, rfl, ?_, w2.loc g2 hal, ?_⟩
                · rw [St.get_put_same (St.get_ok.1 g2).1]
                  unfold nmAt
                  rw [if_pos hbn]
                  rfl
                · exact keeps_join (keeps_weak k2 fun _ f => f.elim) (Keeps.put (but := (· = s.h)) rfl) fun j hj => .inr (by rw [hj]; exact Nat.le_refl _)
              · simp only [ifB_decide, if_neg (show ¬ (bi : Int) < (nms.length : Int) by omega)]
                refine Goes.some ⟨s2, rfl, ?_, w2, keeps_weak k2 fun _ f => f.elim⟩
                unfold nmAt
                rw [if_neg hbn]
                exact g2
            · rintro c ⟨s3, rfl, g3, w3, k3⟩
              have e4 := fun {γ : Type} (K : Kv γ) => storeS_at (O := orc vE) (cs := [.int .i64 ((bi + 1 : Nat) : Int)]) (z := 1) (off := 4) (v := .int .i64 ((bi + 1 : Nat) : Int)) w3.g rfl (Nat.le_of_ble_eq_true rfl) w3.ro K
              simp only [un0_nil, notNil_mp, chk_true, fldA_mp, Nat.zero_add, loadS_mp w3.g, List.drop_succ_cons, List.drop_zero, takeO_one, bindO_ok, asI_int, letV_eq, wrapA1 (show bi + 1 ≤ 9223372036854775807 by omega), e4]
              refine Goes.some ⟨_, rfl, ?_, ?_, ?_⟩
              · rw [St.get_put_ne hal, if_pos hk]; exact g3
              · rw [if_pos hk]; exact w3.setB (bi + 1) u
              · exact k3.trans (Keeps.put rfl)
          · have hkb : (((k : Nat) : Int) == 15) = false := by rw [beq_eq_false_iff_ne]; omega
            simp only [hkb, ifB_false]
            refine Goes.some ⟨s2, rfl, ?_, ?_, keeps_weak k2 fun _ f => f.elim⟩
            · rw [if_neg hk]; exact g2
            · rw [if_neg hk]; exact w2
        · rintro c ⟨s4, rfl, g4, w4, k4⟩
          have hb4 : (if k = 15 then bi + 1 else bi) + nPs qs + nPs r ≤ N := by split <;> omega
          have hrp : renP nms (.mk k lit sp nm qs) bi = (.mk k lit sp (if k = 15 then nmAt nms bi nm else nm) (renPs nms qs (if k = 15 then bi + 1 else bi)).1, (renPs nms qs (if k = 15 then bi + 1 else bi)).2) := by
            simp only [renP]
            split <;> rfl
          generalize (if k = 15 then nmAt nms bi nm else nm) = nm' at g4 hrp
          generalize (if k = 15 then bi + 1 else bi) = b4 at w4 hb4 hrp
          simp only [un0_nil, hi1, AV.cells, fldA_ip, List.drop_succ_cons, List.drop_zero, loadS_ip, takeO_one, bindO_ok]
          refine Goes.callW (ih qs gs y s4 a yb yu yt nv us nms b4 u hsz hq hy w4 (by omega)) rfl (nb1 _ _ _ _) ?_
          rintro v5 s5 ⟨v5', s5', fs5, e5, o5, hp5, w5, k5⟩
          cases e5
          have g5 := k5.old _ _ hal.symm g4
          have o1 : Own s5 6 101 v fs := own_keep (own_keep o k4 (own_ne o w1.g)) k5 (fun j hj e => by
            subst e; exact (own_keep o k4 (own_ne o w1.g)).not w4.g hj)
          have e6 := fun {γ : Type} (K : Kv γ) => storeS_at (O := orc vE) (cs := [v5]) (z := 1) (off := 5) (v := v5) g5 rfl (Nat.le_of_ble_eq_true rfl) (by rw [k5.ro, k4.ro]; exact w1.roh) K
          have g6 : (s5.put s.h (.cells 101 [.int .u8 (k : Int), .int .u8 (lit : Int), .int .i64 sp.1, .int .i64 sp.2, .str nm', v5])).get s.h = .ok (.cells 101 [.int .u8 (k : Int), .int .u8 (lit : Int), .int .i64 sp.1, .int .i64 sp.2, .str nm', v5]) := St.get_put_same (St.get_ok.1 g5).1
          have e6 : ∀ {γ : Type} (K : Kv γ), storeS (orc vE) 1 (.mp s.h 5) v5 [v5] s5 K = K VM.undef (s5.put s.h (.cells 101 [.int .u8 (k : Int), .int .u8 (lit : Int), .int .i64 sp.1, .int .i64 sp.2, .str nm', v5])) ⟨[s.h], .wrote s.h (.cells 101 [.int .u8 (k : Int), .int .u8 (lit : Int), .int .i64 sp.1, .int .i64 sp.2, .str nm', v5])⟩ := fun K => e6 K
          obtain ⟨y6, hy6, ef⟩ := o5.isW.fit
          have o6 := o1.put (t' := 101) (cs' := [.int .u8 (k : Int), .int .u8 (lit : Int), .int .i64 sp.1, .int .i64 sp.2, .str nm', v5]) g5
          have hfl : fs.length ≤ N := by
            have h1 := lenP (renPs nms ps b).1
            rw [nPs_ren] at h1
            have h2 := hpre.len
            have h3 : pre.length ≤ (renPs nms ps b).1.length := by rw [hren]; simp
            omega
          obtain ⟨v7, s7, fx7, e7, o7, k7, hw7⟩ := app_own (b := 64) (new := [.agg [.int .u8 (k : Int), .int .u8 (lit : Int), .int .i64 sp.1, .int .i64 sp.2, .str nm', y6]]) o6 (by simp) (room_of (by simp; omega) (by omega) (by omega))
          have e7' := fun {γ : Type} (K : Kv γ) => appS_of e7 K
          have w6 := w5.loc (t' := 101) (cs := [.int .u8 (k : Int), .int .u8 (lit : Int), .int .i64 sp.1, .int .i64 sp.2, .str nm', v5]) g5 hal
          simp only [o5.isW.asOne, e6, loadS_mp g6, List.drop_zero, take6, bindO_ok, unA_agg, unc_cons, asI_int, asS_str, un0_nil, ef, hy6.asOne, hy6.fit1, e7', letV_eq, wrap1 hi hxl]
          refine Goes.inl ?_
          have hsh : st.h ≤ s.h := k1.h
          refine ⟨v7, s7, _, pre ++ [.mk k lit sp nm' (renPs nms qs b4).1], (renPs nms qs b4).2, rfl, o7, fun j hj => ?_, ?_, by simp [hlen], w6.own o6 k7, ?_, ?_, ?_⟩
          · rcases hw7 j hj with h1 | h1
            · exact ho j h1
            · have h2 : s5.h ≤ j := h1
              have := k5.h; have := k4.h
              omega
          · have : ∀ {l m : List Pat} {es fs : List AV}, IsPs l es → IsPs m fs → IsPs (l ++ m) (es ++ fs) := by
              intro l
              induction l with
              | nil => intro m es fs h k; simp only [IsPs] at h; subst h; exact k
              | cons p l ih => 
                intro m es fs h k
                simp only [IsPs] at h
                obtain ⟨v, vs, rfl, h1, h2⟩ := h
                exact IsPs.cons h1 (ih h2 k)
            exact this hpre (IsPs.cons (by simp only [IsP]; exact ⟨y6, fs5, rfl, hy6, hp5⟩) IsPs.nil)
          · have c1 : Keeps st s5 (· = a) := (k1.trans k4).trans k5
            have c2 := keeps_join c1 (Keeps.put (st := s5) (i := s.h) (o := .cells 101 [.int .u8 (k : Int), .int .u8 (lit : Int), .int .i64 sp.1, .int .i64 sp.2, .str nm', v5]) (but := (· = s.h)) rfl) fun j hj => .inr (by rw [hj]; exact hsh)
            exact keeps_join c2 k7 fun j hj => .inr (ho j hj)
          · rw [hr2]
            rw [hren]
            simp only [renPs, hrp, List.append_assoc, List.cons_append, List.nil_append]
          · rw [hr2]
            have := cntPs nms qs b4
            omega
    · rintro q ⟨v, s, fs, pre, bi, rfl, o, ho, hpre, hlen, w1, k1, hren, hcnt⟩
      have hlt : ¬ (es.length : Int) < (es.length : Int) := by omega
      rw [List.drop_eq_nil_of_le (by rw [← hp.len]; exact Nat.le_refl _)] at hren
      simp only [renPs, List.append_nil] at hren
      simp only [w31_L1, unc_cons, asI_int, un0_nil, hx.len, ifB_decide, if_neg hlt]
      refine Goes.inr ?_
      exact ⟨v, s, fs, _, rfl, o, by rw [hren]; exact hpre, by rw [hren]; exact w1, k1⟩
    · rintro c ⟨v, s, fs, k, rfl, o, hpre, w1, k1⟩
      simp only [unc_cons, un0_nil, oneOf_one]
      exact Goes.some ⟨v, s, fs, rfl, o, hpre, w1, k1⟩
end Go.Proofs.YtoopmjhdgkcleaaGreatDoor.Vm
/- The renamer: expressions, one by one. -/
set_option maxRecDepth 100000
set_option linter.unusedSimpArgs false
namespace Go.Proofs.YtoopmjhdgkcleaaGreatDoor.Vm
open Go Go.VM Go.Proofs Go.Scope

/-! What reads the same as itself. -/
theorem rf_isSl {d z : Nat} {x : AV} {es : List AV} (hx : IsSl z x es) (h : ∀ c ∈ es, Rf d c) : Rf (d + 1) x := by
  rcases hx.2 with ⟨rfl | rfl, rfl⟩ | rfl | rfl
  · exact rf_nils.mono (by omega)
  · exact rf_es.mono (by omega)
  · exact rf_sl h
  · exact rf_sl h
theorem rf_isW {d z : Nat} {x : AV} {es : List AV} (hx : IsW z x es) (h : ∀ c ∈ es, Rf d c) : Rf (d + 1) x := by
  rcases hx with hx | ⟨_, k, rfl⟩
  · exact rf_isSl hx h
  · exact rf_sl h
theorem rf_pat : ∀ (n : Nat), (∀ (p : Pat) v, SizeOf.sizeOf p < n → IsP p v → Rf (2 * nP p) v) ∧ (∀ (ps : List Pat) es, SizeOf.sizeOf ps < n → IsPs ps es → ∀ v ∈ es, Rf (2 * nPs ps) v) := by
  intro n
  induction n with
  | zero => exact ⟨fun _ _ h => by omega, fun _ _ h => by omega⟩
  | succ n ih =>
    constructor
    · intro p v h hp
      cases p with
      | mk k lit sp nm ps =>
        simp only [Pat.mk.sizeOf_spec] at h
        obtain ⟨x, es, rfl, hx, hps⟩ := hp.opn
        have h1 := rf_isSl hx (ih.2 ps es (by omega) hps)
        have h2 : 2 * nP (.mk k lit sp nm ps) = (2 * nPs ps + 1) + 1 := by simp only [nP]; omega
        rw [h2]
        refine rf_agg fun c hc => ?_
        simp only [List.mem_cons, List.not_mem_nil, or_false] at hc
        rcases hc with rfl | rfl | rfl | rfl | rfl | rfl
        · exact (rf_int _ _).mono (by omega)
        · exact (rf_int _ _).mono (by omega)
        · exact (rf_int _ _).mono (by omega)
        · exact (rf_int _ _).mono (by omega)
        · exact (rf_str _).mono (by omega)
        · exact h1
    · intro ps es h hp v hv
      cases ps with
      | nil => simp only [IsPs] at hp; subst hp; cases hv
      | cons p ps =>
        simp only [List.cons.sizeOf_spec] at h
        simp only [IsPs] at hp
        obtain ⟨w, ws, rfl, h1, h2⟩ := hp
        simp only [nPs]
        rcases List.mem_cons.1 hv with rfl | hv
        · exact (ih.1 p _ (by omega) h1).mono (by omega)
        · exact (ih.2 ps ws (by omega) h2 v hv).mono (by omega)
theorem rf_ps {ps : List Pat} {es : List AV} (h : IsPs ps es) : ∀ v ∈ es, Rf (2 * nPs ps) v := (rf_pat _).2 ps es (Nat.lt_succ_self _) h
theorem rf_expr : ∀ (n : Nat), (∀ (e : Exr) v, SizeOf.sizeOf e < n → IsE e v → Rf (2 * nE e) v) ∧ (∀ (l : List Exr) es, SizeOf.sizeOf l < n → IsEs l es → ∀ v ∈ es, Rf (2 * nEs l) v) := by
  intro n
  induction n with
  | zero => exact ⟨fun _ _ h => by omega, fun _ _ h => by omega⟩
  | succ n ih =>
    constructor
    · intro e v h he
      cases e with
      | mk k sp rc nm ps ls =>
        simp only [Exr.mk.sizeOf_spec] at h
        obtain ⟨x, es, y, fs, rfl, hx, hps, hy, hls⟩ := he.opn
        have h1 := rf_isSl hx (rf_ps hps)
        have h3 := rf_isSl hy (ih.2 ls fs (by omega) hls)
        have h2 : 2 * nE (.mk k sp rc nm ps ls) = (2 * nPs ps + 2 * nEs ls + 1) + 1 := by simp only [nE]; omega
        rw [h2]
        refine rf_agg fun c hc => ?_
        simp only [List.mem_cons, List.not_mem_nil, or_false] at hc
        rcases hc with rfl | rfl | rfl | rfl | rfl | rfl | rfl
        · exact (rf_int _ _).mono (by omega)
        · exact (rf_int _ _).mono (by omega)
        · exact (rf_int _ _).mono (by omega)
        · exact (rf_bool _).mono (by omega)
        · exact (rf_str _).mono (by omega)
        · exact h1.mono (by omega)
        · exact h3.mono (by omega)
    · intro l es h hp v hv
      cases l with
      | nil => simp only [IsEs] at hp; subst hp; cases hv
      | cons p l =>
        simp only [List.cons.sizeOf_spec] at h
        simp only [IsEs] at hp
        obtain ⟨w, ws, rfl, h1, h2⟩ := hp
        simp only [nEs]
        rcases List.mem_cons.1 hv with rfl | hv
        · exact (ih.1 p _ (by omega) h1).mono (by omega)
        · exact (ih.2 l ws (by omega) h2 v hv).mono (by omega)
theorem rf_es2 {l : List Exr} {es : List AV} (h : IsEs l es) : ∀ v ∈ es, Rf (2 * nEs l) v := (rf_expr _).2 l es (Nat.lt_succ_self _) h
/-- A local expression reads the same. -/
theorem same_exr {s s' : St} {o : Nat} {k : Nat} {sp : Sp} {rc : Bool} {nm : Tx} {x y : AV} {es fs : List AV} {ps : List Pat} {ls : List Exr} (g : s.get o = .ok (.cells 63 [.int .u8 (k : Int), .int .i64 sp.1, .int .i64 sp.2, .bool rc, .str nm, x, y]))
    (g' : s'.get o = .ok (.cells 63 [.int .u8 (k : Int), .int .i64 sp.1, .int .i64 sp.2, .bool rc, .str nm, x, y])) (hx : IsW 6 x es) (hp : IsPs ps es) (hy : IsW 7 y fs) (hl : IsEs ls fs) (hn : nPs ps ≤ 4000000 ∧ nEs ls ≤ 4000000) : apart ⟨[o], .kept⟩ ⟨[], .all s s'⟩ = true := by
  have h1 := rf_isW hx (rf_ps hp)
  have h3 := rf_isW hy (rf_es2 hl)
  refine apart_all (sameAt_of (d := 2 * nPs ps + 2 * nEs ls + 1) g g' (fun c hc => ?_) (by omega))
  simp only [List.mem_cons, List.not_mem_nil, or_false] at hc
  rcases hc with rfl | rfl | rfl | rfl | rfl | rfl | rfl
  · exact (rf_int _ _).mono (by omega)
  · exact (rf_int _ _).mono (by omega)
  · exact (rf_int _ _).mono (by omega)
  · exact (rf_bool _).mono (by omega)
  · exact (rf_str _).mono (by omega)
  · exact h1.mono (by omega)
  · exact h3.mono (by omega)
theorem IsEs.app : ∀ {l m : List Exr} {es fs : List AV}, IsEs l es → IsEs m fs → IsEs (l ++ m) (es ++ fs)
  | [], m, _, fs, h, k => by simp only [IsEs] at h; subst h; exact k
  | d :: l, m, _, fs, h, k => by
    simp only [IsEs] at h
    obtain ⟨w, ws, rfl, hd, h⟩ := h
    exact IsEs.cons hd (IsEs.app h k)
theorem IsPs.app : ∀ {l m : List Pat} {es fs : List AV}, IsPs l es → IsPs m fs → IsPs (l ++ m) (es ++ fs)
  | [], m, _, fs, h, k => by simp only [IsPs] at h; subst h; exact k
  | d :: l, m, _, fs, h, k => by
    simp only [IsPs] at h
    obtain ⟨w, ws, rfl, hd, h⟩ := h
    exact IsPs.cons hd (IsPs.app h k)
/-- An expression's value, whose slices may still be somebody's own. -/
def IsEo (e : Exr) (v : AV) : Prop :=
  match e with
  | .mk k sp rc nm ps ls => ∃ x es y fs, v = .agg [.int .u8 (k : Int), .int .i64 sp.1, .int .i64 sp.2, .bool rc, .str nm, x, y] ∧ IsW 6 x es ∧ IsPs ps es ∧ IsW 7 y fs ∧ IsEs ls fs ∧ ps.length ≤ 100000000
/-- An expression, renamed. -/
def RxOk (us : List (Tx × Sp × Int)) (nms : List Tx) (N n : Nat) : Prop := ∀ (e : Exr) (v : AV) (st : St) (a : Nat) (yb yu yt nv : AV) (b u : Nat), SizeOf.sizeOf e < n → IsE e v → Rn st a yb yu yt nv us nms b u → b + nE e ≤ N → u + nE e ≤ N →
  Goes ((orc vE).wide 32 [.mp a 0, v] st) fun r => ∃ w s, r = (w, s) ∧ IsEo (renE us nms e b u).1 w ∧ Rn s a yb yu yt nv us nms (renE us nms e b u).2.1 (renE us nms e b u).2.2 ∧ Keeps st s (· = a)
theorem rexprs_of {us : List (Tx × Sp × Int)} {nms : List Tx} {N n : Nat} (hN : N ≤ 4000000) (ih : RxOk us nms N n) (l : List Exr) (es : List AV) (x : AV) (st : St) (a : Nat) (yb yu yt nv : AV) (b u : Nat) (hsz : ∀ e ∈ l, SizeOf.sizeOf e < n) (hp : IsEs l es) (hx : IsSl 7 x es)
    (w : Rn st a yb yu yt nv us nms b u) (hb : b + nEs l ≤ N) (hu : u + nEs l ≤ N) :
    Goes ((orc vE).wide 45 [.mp a 0, x] st) fun r => ∃ v s fs, r = (v, s) ∧ Own s 7 63 v fs ∧ (∀ j, ownerOf v j → st.h ≤ j) ∧ IsEs (renEs us nms l b u).1 fs ∧ Rn s a yb yu yt nv us nms (renEs us nms l b u).2.1 (renEs us nms l b u).2.2 ∧ Keeps st s (· = a) := by
  have hxl := hx.1
  refine Goes.wide (Goes.step (w45_eq _ _ _) ?_)
  unfold w45
  refine Goes.bind (R := fun c => ∃ v s fs k, c = (k, [v], s) ∧ Own s 7 63 v fs ∧ (∀ j, ownerOf v j → st.h ≤ j) ∧ IsEs (renEs us nms l b u).1 fs ∧ Rn s a yb yu yt nv us nms (renEs us nms l b u).2.1 (renEs us nms l b u).2.2 ∧ Keeps st s (· = a))
    (Goes.upto (n := es.length) (I := fun i q => ∃ v s fs pre bi ui, q = ([v, .int .i64 (i : Int)], s) ∧ Own s 7 63 v fs ∧ (∀ j, ownerOf v j → st.h ≤ j) ∧ IsEs pre fs ∧ Rn s a yb yu yt nv us nms bi ui ∧ Keeps st s (· = a) ∧
      renEs us nms l b u = (pre ++ (renEs us nms (l.drop i) bi ui).1, (renEs us nms (l.drop i) bi ui).2) ∧ bi + nEs (l.drop i) ≤ N ∧ ui + nEs (l.drop i) ≤ N) ?_ ?_ es.length 0 _ (by omega)
      ⟨.nils, st, [], [], b, u, rfl, Own.nils w.roh _ _, (fun j hj => by obtain ⟨_, _, h⟩ := hj; cases h), IsEs.nil, w, Keeps.refl _ _, rfl, hb, hu⟩) ?_
  · rintro i q hi ⟨v, s, fs, pre, bi, ui, rfl, o, ho, hpre, w1, k1, hren, hcb, hcu⟩
    obtain ⟨e, r, hd⟩ := drop_at (l := l) (i := i) (by rw [← hp.len]; exact hi)
    obtain ⟨ev, hv, hE, _⟩ := hp.get hd
    have hr2 := (drop_cons hd).2.1
    have hse := hsz e (mem_drop hd)
    rw [hd] at hren hcb hcu
    simp only [nEs] at hcb hcu
    have hlt : (i : Int) < (es.length : Int) := by omega
    have hi1 := fun {γ : Type} (s : St) (K : AV → List Nat → Option γ) => hx.idx hv s K
    have hcall := ih e ev s a yb yu yt nv bi ui hse hE w1 (by omega) (by omega)
    have hE0 := hE
    have hcn := cntE us nms e bi ui
    have hne := nE_ren us nms e bi ui
    cases e with
    | mk k sp rc nm qs ls =>
      obtain ⟨y, gs, z, hs, rfl, hy, hq, hz, hl⟩ := hE.opn
      simp only [w45_L1, unc_cons, asI_int, un0_nil, hx.len, ifB_decide, if_pos hlt, hi1, AV.cells, loadS_ip, take7, bindO_ok, unA_agg, asB_bool, asS_str]
      refine Goes.callW hcall rfl (nb1 _ _ _ _) ?_
      rintro v5 s5 ⟨v5', s5', e5, hEo, w5, k5⟩
      cases e5
      have o1 : Own s5 7 63 v fs := own_keep o k5 (own_ne o w1.g)
      have hfl : fs.length ≤ N := by
        have h1 := lenE (renEs us nms l b u).1
        rw [nEs_ren] at h1
        have h2 := hpre.len
        have h3 : pre.length ≤ (renEs us nms l b u).1.length := by rw [hren]; simp
        omega
      rw [hren]
      simp only [renEs]
      generalize renE us nms (.mk k sp rc nm qs ls) bi ui = R at *
      obtain ⟨e2, b2, u2⟩ := R
      dsimp only at hEo w5 hcn hne ⊢
      cases e2 with
      | mk k2 sp2 rc2 nm2 ps2 ls2 =>
        obtain ⟨x2, es2, y2, fs2, rfl, hx2, hp2, hy2, hl2, hfew⟩ := hEo
        obtain ⟨x3, hx3, ex⟩ := hx2.fit
        obtain ⟨y3, hy3, ey⟩ := hy2.fit
        obtain ⟨v7, s7, fx7, e7, o7, k7, hw7⟩ := app_own (b := 96) (new := [.agg [.int .u8 (k2 : Int), .int .i64 sp2.1, .int .i64 sp2.2, .bool rc2, .str nm2, x3, y3]]) o1 (by simp) (room_of (by simp; omega) (by omega) (by omega))
        have e7' := fun {γ : Type} (K : Kv γ) => appS_of e7 K
        simp only [unA_agg, unc_cons, asI_int, asB_bool, asS_str, un0_nil, hx2.asOne, hy2.asOne, ex, ey, hx3.asOne, hy3.asOne, hx3.fit1, hy3.fit1, e7', letV_eq, wrap1 hi hxl]
        refine Goes.inl ?_
        refine ⟨v7, s7, _, pre ++ [.mk k2 sp2 rc2 nm2 ps2 ls2], b2, u2, rfl, o7, fun j hj => ?_, ?_, w5.own o1 k7, ?_, ?_, ?_, ?_⟩
        · rcases hw7 j hj with h1 | h1
          · exact ho j h1
          · have := k5.h; have := k1.h
            omega
        · exact hpre.app (IsEs.cons (by simp only [IsE]; exact ⟨x3, es2, y3, fs2, rfl, hx3, hp2, hy3, hl2, hfew⟩) IsEs.nil)
        · exact keeps_join (k1.trans k5) k7 fun j hj => .inr (ho j hj)
        · rw [hr2]
          simp only [List.append_assoc, List.cons_append, List.nil_append]
        · rw [hr2]; omega
        · rw [hr2]; omega
  · rintro q ⟨v, s, fs, pre, bi, ui, rfl, o, ho, hpre, w1, k1, hren, _, _⟩
    have hlt : ¬ (es.length : Int) < (es.length : Int) := by omega
    rw [List.drop_eq_nil_of_le (by rw [← hp.len]; exact Nat.le_refl _)] at hren
    simp only [renEs, List.append_nil] at hren
    simp only [w45_L1, unc_cons, asI_int, un0_nil, hx.len, ifB_decide, if_neg hlt]
    refine Goes.inr ?_
    exact ⟨v, s, fs, _, rfl, o, ho, by rw [hren]; exact hpre, by rw [hren]; exact w1, k1⟩
  · rintro c ⟨v, s, fs, k, rfl, o, ho, hpre, w1, k1⟩
    simp only [unc_cons, un0_nil, oneOf_one]
    exact Goes.some ⟨v, s, fs, rfl, o, ho, hpre, w1, k1⟩
end Go.Proofs.YtoopmjhdgkcleaaGreatDoor.Vm
/- The renamer: a use's name; a match's arms. -/
set_option maxRecDepth 100000
set_option linter.unusedSimpArgs false
namespace Go.Proofs.YtoopmjhdgkcleaaGreatDoor.Vm
open Go Go.VM Go.Proofs Go.Scope

abbrev exC (k : Nat) (sp : Sp) (rc : Bool) (nm : Tx) (x y : AV) : List AV := [.int .u8 (k : Int), .int .i64 sp.1, .int .i64 sp.2, .bool rc, .str nm, x, y]
theorem fits_ps {ps : List Pat} {es : List AV} (h : IsPs ps es) {β : Type} (K : List AV → Option β) : fitTs true es K = K es := by
  refine fitTs_of (fun v hv K => ?_) K
  have key : ∃ p, IsP p v := by
    induction ps generalizing es with
    | nil => simp only [IsPs] at h; subst h; cases hv
    | cons p ps ih =>
      simp only [IsPs] at h
      obtain ⟨w, ws, rfl, h1, h2⟩ := h
      rcases List.mem_cons.1 hv with rfl | hv
      · exact ⟨p, h1⟩
      · exact ih h2 hv
  obtain ⟨⟨k, lit, sp, nm, qs⟩, hp⟩ := key
  obtain ⟨x, gs, rfl, hx, _⟩ := hp.opn
  have o0 : ∀ {γ : Type} (v : AV) (K : Option γ), VM.one v = true → asOne v K = K := fun v K e => asOne_of e K
  have f0 : ∀ {γ : Type} (v : AV) (K : AV → Option γ), VM.fit v = .ok v → fit1 v K = K v := fun v K e => by unfold fit1; rw [e]
  simp only [fitT, unA_agg, onesS, hx.asOne, o0 (.int .i64 _) _ rfl, o0 (.int .u8 _) _ rfl, o0 (.str _) _ rfl, fitC, hx.fit1, f0 (.int .i64 _) _ rfl, f0 (.int .u8 _) _ rfl, f0 (.str _) _ rfl]
theorem sizes_ps {ps : List Pat} {es : List AV} (h : IsPs ps es) : sizesOk 6 es = true := by
  refine sizesOk_of fun v hv => ?_
  induction ps generalizing es with
  | nil => simp only [IsPs] at h; subst h; cases hv
  | cons p ps ih =>
    simp only [IsPs] at h
    obtain ⟨w, ws, rfl, h1, h2⟩ := h
    rcases List.mem_cons.1 hv with rfl | hv
    · cases p with
      | mk k lit sp nm qs =>
        obtain ⟨x, gs, rfl, _⟩ := h1.opn
        rfl
    · exact ih h2 hv
theorem own_elems {st : St} {z : Nat} {e : TypeId} {v : AV} {es : List AV} (h : Own st z e v es) {β : Type} (K : List AV → Option β) : elemsS v K = K es := h.isW.elems K
/-- The arms of a match, from some arm on. -/
structure Arm (st0 s : St) (a o : Nat) (yb yu yt nv : AV) (us : List (Tx × Sp × Int)) (nms : List Tx) (k : Nat) (sp : Sp) (rc : Bool) (nm : Tx) (P : List Pat) (A : List Exr) (bi ui : Nat) : Prop where
  ex : ∃ vP fP vA fA, s.get o = .ok (.cells 63 (exC k sp rc nm vP vA)) ∧ Own s 6 101 vP fP ∧ Own s 7 63 vA fA ∧ (∀ j, ownerOf vP j → st0.h ≤ j) ∧ (∀ j, ownerOf vA j → st0.h ≤ j) ∧ IsPs P fP ∧ IsEs A fA
  w : Rn s a yb yu yt nv us nms bi ui
  k : Keeps st0 s (· = a)
  oh : st0.h ≤ o
  oa : a ≠ o
  roh0 : st0.ro ≤ st0.h
theorem own_types {st : St} {z z' : Nat} {v v' : AV} {es es' : List AV} (h : Own st z 101 v es) (h' : Own st z' 63 v' es') : (∀ j, ownerOf v j → ¬ ownerOf v' j) ∧ ∀ j, ownerOf v' j → ¬ ownerOf v j :=
  ⟨own_two h h' (by decide), own_two h' h (by decide)⟩
/-- An arm's patterns. -/
theorem arm_pats {N : Nat} (hN : N ≤ 4000000) {st0 s : St} {a o : Nat} {yb yu yt nv : AV} {us : List (Tx × Sp × Int)} {nms : List Tx} {k : Nat} {sp : Sp} {rc : Bool} {nm : Tx} {P : List Pat} {A : List Exr} {bi ui : Nat}
    (h : Arm st0 s a o yb yu yt nv us nms k sp rc nm P A bi ui) {ps r : List Pat} {p : Pat} {es : List AV} {x : AV} {i : Nat} (hp : IsPs ps es) (hx : IsSl 6 x es) (hd : ps.drop i = p :: r) (hb : bi + nPs [p] ≤ N) (hP : nPs P + nPs [p] ≤ N) (hA : nEs A ≤ N) {Q : Car → Prop}
    (g : ∀ s', Arm st0 s' a o yb yu yt nv us nms k sp rc nm (P ++ (renPs nms [p] bi).1) A (renPs nms [p] bi).2 ui → Q (([] : List AV), s')) :
    Goes (loadS 1 false (.mp o 5) s fun v134 l135 => letV (IntKind.wrap .i64 ((i : Int) + 1)) fun n136 => sliceS 6 x (some (i : Int)) (some n136) none fun v137 => callS (orc vE) 31 [.mp a 0, v137] s fun v138 st139 x140 =>
      chk (apart (Fx.mk l135 Did.kept) x140 && (apart (Fx.mk [] Did.kept) x140 && true)) (elemsS v138 fun l141 => fitTs true l141 fun l142 => chk (sizesOk 6 l142) (appS 6 64 101 v134 l142 st139 fun v143 st144 _x => asOne v143 (asOne v143 (storeS (orc vE) 1 (.mp o 5) v143
      [v143] st144 fun _x st147 _x_1 => some (([] : List AV), st147)))))) Q := by
  obtain ⟨vP, fP, vA, fA, hg, oP, oA, hoP, hoA, hP1, hA1⟩ := h.ex
  have hil : i < es.length := by rw [hp.len]; exact (drop_cons hd).2.2
  have hxl := hx.1
  obtain ⟨x', hx', ec⟩ := cut_one hx hil
  have hpp := IsPs.take (i + 1) hp
  have hpp := IsPs.drop i hpp
  rw [take_drop_one hd] at hpp
  simp only [loadS_mp hg, List.drop_succ_cons, List.drop_zero, takeO_one, bindO_ok, letV_eq, wrapA1 (show i + 1 ≤ 9223372036854775807 by omega), ec]
  refine Goes.callW (rpats_ok N hN _ [p] _ x' s a yb yu yt nv us nms bi ui (Nat.lt_succ_self _) hpp hx' h.w hb) rfl (nb1 _ _ _ _) ?_
  rintro v5 s5 ⟨v5', s5', fs5, e5, o5, hp5, w5, k5⟩
  cases e5
  have g5 := k5.old _ _ h.oa.symm hg
  have oP5 := own_keep oP k5 (own_ne oP h.w.g)
  have oA5 := own_keep oA k5 (own_ne oA h.w.g)
  have hap : apart ⟨[o], .kept⟩ ⟨[], .all s s5⟩ = true := same_exr hg g5 oP.isW hP1 oA.isW hA1 ⟨by omega, by omega⟩
  have hf1 : fs5.length = 1 := by rw [hp5.len, renPs_len]; rfl
  have hne : fs5 ≠ [] := fun e => by rw [e] at hf1; cases hf1
  have hroom : roomOk (fP.length + fs5.length) ⟨.other, 6, 64, [], false, false⟩ = true := by
    have h2 := hP1.len
    have h3 := lenP P
    have h4 := lenP [p]
    exact room_of (by omega) (by omega) (by omega)
  obtain ⟨v6, s6, fx6, q6, o6, k6, hw6⟩ := app_own (b := 64) (new := fs5) oP5 hne hroom
  have e6 := fun {γ : Type} (K : Kv γ) => appS_of q6 K
  have oA6 := own_keep oA5 k6 (own_types oP5 oA5).2
  have w6 := w5.own oP5 k6
  have g6 := k6.old _ _ (oP5.not g5) g5
  have hro6 : s6.ro ≤ o := by rw [k6.ro, k5.ro, h.k.ro]; exact Nat.le_trans h.roh0 h.oh
  have e7 := fun {γ : Type} (K : Kv γ) => storeS_at (O := orc vE) (cs := [v6]) (z := 1) (off := 5) (v := v6) g6 rfl (Nat.le_of_ble_eq_true rfl) hro6 K
  simp only [hap, apart_all0, Bool.and_self, chk_true, own_elems o5, fits_ps hp5, chk_of (sizes_ps hp5), e6, o6.isW.asOne, e7]
  refine Goes.some (g _ ⟨⟨v6, fP ++ fs5, vA, fA, St.get_put_same (St.get_ok.1 g6).1, o6.put g6, oA6.put g6, fun j hj => ?_, hoA, hP1.app hp5, hA1⟩, w6.loc g6 h.oa, ?_, h.oh, h.oa, h.roh0⟩)
  · rcases hw6 j hj with h1 | h1
    · exact hoP j h1
    · have := k5.h; have := h.k.h
      omega
  · have c2 := keeps_join (h.k.trans k5) k6 fun j hj => .inr (hoP j hj)
    exact keeps_join c2 (Keeps.put (but := (· = o)) rfl) fun j hj => .inr (by rw [hj]; exact h.oh)
/-- What is left of a match behind an arm's patterns. -/
def armG (us : List (Tx × Sp × Int)) (nms : List Tx) : List Exr → List Pat → Nat → Nat → List Pat × List Exr × Nat × Nat
  | [], ps, b, u => renArms us nms [] ps b u
  | e :: r, ps, b, u => ((renArms us nms r ps (renE us nms e b u).2.1 (renE us nms e b u).2.2).1, (renE us nms e b u).1 :: (renArms us nms r ps (renE us nms e b u).2.1 (renE us nms e b u).2.2).2.1, (renArms us nms r ps (renE us nms e b u).2.1 (renE us nms e b u).2.2).2.2)
theorem armG_p (us : List (Tx × Sp × Int)) (nms : List Tx) (l : List Exr) (p : Pat) (r : List Pat) (b u : Nat) : renArms us nms l (p :: r) b u = ((renPs nms [p] b).1 ++ (armG us nms l r (renPs nms [p] b).2 u).1, (armG us nms l r (renPs nms [p] b).2 u).2) := by
  cases l with
  | nil => simp only [renArms, armG, renAll]
  | cons e l => simp only [renArms, armG]
theorem armG_e (us : List (Tx × Sp × Int)) (nms : List Tx) (e : Exr) (l : List Exr) (b u : Nat) : renArms us nms (e :: l) [] b u = armG us nms (e :: l) [] b u := by simp only [renArms, armG]
theorem arms_ok {N n : Nat} (hN : N ≤ 4000000) {us : List (Tx × Sp × Int)} {nms : List Tx} (ih : RxOk us nms N n) {st0 : St} {a o : Nat} {yb yu yt nv : AV} {k : Nat} {sp : Sp} {rc : Bool} {nm : Tx} {ps : List Pat} {es : List AV} {x : AV} {ls : List Exr} {gs : List AV} {z : AV} {st23 : St} (ho : st23.h = o)
    (hp : IsPs ps es) (hx : IsSl 6 x es) (hl : IsEs ls gs) (hz : IsSl 7 z gs) (hsz : ∀ e ∈ ls, SizeOf.sizeOf e < n) (F : List Pat × List Exr × Nat × Nat) (s0 : St) (A0 : List Exr) (b0 u0 : Nat) (h0 : Arm st0 s0 a o yb yu yt nv us nms k sp rc nm [] A0 b0 u0)
    (hF : F = ((renArms us nms (ls.drop 1) ps b0 u0).1, A0 ++ (renArms us nms (ls.drop 1) ps b0 u0).2.1, (renArms us nms (ls.drop 1) ps b0 u0).2.2)) (hb : b0 + nPs ps + nEs (ls.drop 1) ≤ N) (hu : u0 + nPs ps + nEs (ls.drop 1) ≤ N) (hA : nEs A0 + nEs (ls.drop 1) ≤ N) :
    Goes (loopO (w32_L1 (.mp a 0) x z st23) ([.int .i64 0], s0)) fun c => ∃ s, c = (0, [], s) ∧ Arm st0 s a o yb yu yt nv us nms k sp rc nm F.1 F.2.1 F.2.2.1 F.2.2.2 := by
  have hxl := hx.1
  have hzl := hz.1
  have hpl := hp.len
  have hll := hl.len
  have l1 := lenP ps
  have l2 := lenE (ls.drop 1)
  rw [List.length_drop] at l2
  refine Goes.upto (n := max es.length (gs.length - 1)) (I := fun i q => ∃ s P A bi ui, q = ([.int .i64 (i : Int)], s) ∧ Arm st0 s a o yb yu yt nv us nms k sp rc nm P A bi ui ∧
    F = (P ++ (renArms us nms (ls.drop (i + 1)) (ps.drop i) bi ui).1, A ++ (renArms us nms (ls.drop (i + 1)) (ps.drop i) bi ui).2.1, (renArms us nms (ls.drop (i + 1)) (ps.drop i) bi ui).2.2) ∧
    bi + nPs (ps.drop i) + nEs (ls.drop (i + 1)) ≤ N ∧ ui + nPs (ps.drop i) + nEs (ls.drop (i + 1)) ≤ N ∧ nPs P + nPs (ps.drop i) ≤ N ∧ nEs A + nEs (ls.drop (i + 1)) ≤ N) ?_ ?_ (max es.length (gs.length - 1)) 0 _ (by omega)
    ⟨s0, [], A0, b0, u0, rfl, h0, by simpa using hF, by simpa using hb, by simpa using hu, by simp only [nPs, List.drop_zero]; omega, by simpa using hA⟩
  · rintro i q hi ⟨s, P, A, bi, ui, rfl, h, hren, hcb, hcu, hcP, hcA⟩
    have hw1 : IntKind.wrap .i64 ((i : Int) + 1) = ((i + 1 : Nat) : Int) := wrapA1 (by omega)
    simp only [w32_L1, unc_cons, asI_int, un0_nil, hx.len, hz.len, letV_eq, hw1, ho]
    refine Goes.bind (R := fun c => c = ([.bool true], s)) ?_ ?_
    · by_cases h1 : i < es.length
      · simp only [ifB_decide, if_pos (show (i : Int) < (es.length : Int) by omega)]
        exact Goes.some rfl
      · simp only [ifB_decide, if_neg (show ¬ (i : Int) < (es.length : Int) by omega), decide_eq_true (show ((i + 1 : Nat) : Int) < (gs.length : Int) by omega)]
        exact Goes.some rfl
    rintro c rfl
    simp only [unc_cons, asB_bool, un0_nil, ifB_true]
    refine Goes.bind (R := fun c => ∃ s2 P2 b2, c = ([], s2) ∧ Arm st0 s2 a o yb yu yt nv us nms k sp rc nm P2 A b2 ui ∧
      F = (P2 ++ (armG us nms (ls.drop (i + 1)) (ps.drop (i + 1)) b2 ui).1, A ++ (armG us nms (ls.drop (i + 1)) (ps.drop (i + 1)) b2 ui).2.1, (armG us nms (ls.drop (i + 1)) (ps.drop (i + 1)) b2 ui).2.2) ∧
      b2 + nPs (ps.drop (i + 1)) + nEs (ls.drop (i + 1)) ≤ N ∧ ui + nPs (ps.drop (i + 1)) + nEs (ls.drop (i + 1)) ≤ N ∧ nPs P2 + nPs (ps.drop (i + 1)) ≤ N) ?_ ?_
    · by_cases h1 : i < es.length
      · obtain ⟨p, r, hd⟩ := drop_at (l := ps) (i := i) (by omega)
        have hr2 := (drop_cons hd).2.1
        rw [hd] at hren hcb hcu hcP
        simp only [nPs] at hcb hcu hcP
        have hone : nPs [p] = nP p := by simp [nPs]
        simp only [ifB_decide, if_pos (show (i : Int) < (es.length : Int) by omega)]
        have key := arm_pats hN h hp hx hd (by omega) (by omega) (by omega) (Q := fun c => ∃ s2 P2 b2, c = ([], s2) ∧ Arm st0 s2 a o yb yu yt nv us nms k sp rc nm P2 A b2 ui ∧
          F = (P2 ++ (armG us nms (ls.drop (i + 1)) (ps.drop (i + 1)) b2 ui).1, A ++ (armG us nms (ls.drop (i + 1)) (ps.drop (i + 1)) b2 ui).2.1, (armG us nms (ls.drop (i + 1)) (ps.drop (i + 1)) b2 ui).2.2) ∧
          b2 + nPs (ps.drop (i + 1)) + nEs (ls.drop (i + 1)) ≤ N ∧ ui + nPs (ps.drop (i + 1)) + nEs (ls.drop (i + 1)) ≤ N ∧ nPs P2 + nPs (ps.drop (i + 1)) ≤ N) (fun s' h' => by
            have hc := cntPs nms [p] bi
            refine ⟨s', _, _, rfl, h', ?_, ?_, ?_, ?_⟩
            · rw [hren, armG_p, hr2]
              simp only [List.append_assoc]
            · rw [hr2]; omega
            · rw [hr2]; omega
            · rw [hr2, nPs_app, nPs_ren]; omega)
        simp only [letV_eq, hw1] at key
        exact key
      · simp only [ifB_decide, if_neg (show ¬ (i : Int) < (es.length : Int) by omega)]
        have hn1 : ps.drop i = [] := List.drop_eq_nil_of_le (by omega)
        have hn2 : ps.drop (i + 1) = [] := List.drop_eq_nil_of_le (by omega)
        obtain ⟨e, r, hd⟩ := drop_at (l := ls) (i := i + 1) (by omega)
        refine Goes.some ⟨s, P, bi, rfl, h, ?_, by rw [hn2]; rw [hn1] at hcb; exact hcb, by rw [hn2]; rw [hn1] at hcu; exact hcu, by rw [hn2]; rw [hn1] at hcP; exact hcP⟩
        rw [hren, hn1, hn2, hd, armG_e]
    rintro c ⟨s2, P2, b2, rfl, h2, hren2, hcb2, hcu2, hcP2⟩
    simp only [un0_nil]
    refine Goes.bind (R := fun c => ∃ s3 A3 b3 u3, c = ([], s3) ∧ Arm st0 s3 a o yb yu yt nv us nms k sp rc nm P2 A3 b3 u3 ∧
      F = (P2 ++ (renArms us nms (ls.drop (i + 2)) (ps.drop (i + 1)) b3 u3).1, A3 ++ (renArms us nms (ls.drop (i + 2)) (ps.drop (i + 1)) b3 u3).2.1, (renArms us nms (ls.drop (i + 2)) (ps.drop (i + 1)) b3 u3).2.2) ∧
      b3 + nPs (ps.drop (i + 1)) + nEs (ls.drop (i + 2)) ≤ N ∧ u3 + nPs (ps.drop (i + 1)) + nEs (ls.drop (i + 2)) ≤ N ∧ nEs A3 + nEs (ls.drop (i + 2)) ≤ N) ?_ ?_
    · by_cases h1 : i + 1 < gs.length
      · obtain ⟨e, r, hd⟩ := drop_at (l := ls) (i := i + 1) (by omega)
        have hr2 : ls.drop (i + 2) = r := (drop_cons hd).2.1
        obtain ⟨ev, hv, hE, _⟩ := hl.get hd
        rw [hd] at hren2 hcb2 hcu2 hcA
        simp only [nEs] at hcb2 hcu2 hcA
        simp only [armG] at hren2
        obtain ⟨vP, fP, vA, fA, hg, oP, oA, hoP, hoA, hP1, hA1⟩ := h2.ex
        have hi1 := fun {γ : Type} (s : St) (K : AV → List Nat → Option γ) => hz.idx hv s K
        have hcn := cntE us nms e b2 ui
        have hne := nE_ren us nms e b2 ui
        have hcall := ih e ev s2 a yb yu yt nv b2 ui (hsz e (mem_drop hd)) hE h2.w (by omega) (by omega)
        cases e with
        | mk k1 sp1 rc1 nm1 qs1 ls1 =>
          obtain ⟨y1, gs1, z1, hs1, rfl, hy1, hq1, hz1, hl1⟩ := hE.opn
          simp only [ifB_decide, if_pos (show ((i + 1 : Nat) : Int) < (gs.length : Int) by omega), loadS_mp hg, List.drop_succ_cons, List.drop_zero, takeO_one, hi1, AV.cells, loadS_ip, take7, bindO_ok, unA_agg, unc_cons, asI_int, asB_bool, asS_str, un0_nil]
          refine Goes.callW hcall rfl (nb1 _ _ _ _) ?_
          rintro v5 s5 ⟨v5', s5', e5, hEo, w5, k5⟩
          cases e5
          have g5 := k5.old _ _ h2.oa.symm hg
          have oP5 := own_keep oP k5 (own_ne oP h2.w.g)
          have oA5 := own_keep oA k5 (own_ne oA h2.w.g)
          have hap : apart ⟨[o], .kept⟩ ⟨[], .all s2 s5⟩ = true := same_exr hg g5 oP.isW hP1 oA.isW hA1 ⟨by omega, by omega⟩
          generalize renE us nms (.mk k1 sp1 rc1 nm1 qs1 ls1) b2 ui = R at *
          obtain ⟨e2, b3, u3⟩ := R
          dsimp only at hEo w5 hcn hne hren2 ⊢
          cases e2 with
          | mk k2 sp2 rc2 nm2 ps2 ls2 =>
            obtain ⟨x2, es2, y2, fs2, rfl, hx2, hp2, hy2, hl2, hfew⟩ := hEo
            obtain ⟨x3, hx3, ex⟩ := hx2.fit
            obtain ⟨y3, hy3, ey⟩ := hy2.fit
            have hroom : roomOk (fA.length + [AV.agg [.int .u8 (k2 : Int), .int .i64 sp2.1, .int .i64 sp2.2, .bool rc2, .str nm2, x3, y3]].length) ⟨.other, 7, 96, [], false, false⟩ = true := by
              have h3 := hA1.len
              have h4 := lenE A
              exact room_of (by simp; omega) (by omega) (by omega)
            obtain ⟨v7, s7, fx7, e7, o7, k7, hw7⟩ := app_own (b := 96) (new := [.agg [.int .u8 (k2 : Int), .int .i64 sp2.1, .int .i64 sp2.2, .bool rc2, .str nm2, x3, y3]]) oA5 (by simp) hroom
            have e7' := fun {γ : Type} (K : Kv γ) => appS_of e7 K
            have oP7 := own_keep oP5 k7 (own_types oP5 oA5).1
            have w7 := w5.own oA5 k7
            have g7 := k7.old _ _ (oA5.not g5) g5
            have hro7 : s7.ro ≤ o := by rw [k7.ro, k5.ro, h2.k.ro]; exact Nat.le_trans h2.roh0 h2.oh
            have e8 := fun {γ : Type} (K : Kv γ) => storeS_at (O := orc vE) (cs := [v7]) (z := 1) (off := 6) (v := v7) g7 rfl (Nat.le_of_ble_eq_true rfl) hro7 K
            simp only [unA_agg, unc_cons, asI_int, asB_bool, asS_str, un0_nil, hap, apart_all0, Bool.and_self, chk_true, hx2.asOne, hy2.asOne, ex, ey, hx3.asOne, hy3.asOne, hx3.fit1, hy3.fit1, e7', o7.isW.asOne, e8]
            refine Goes.some ⟨_, A ++ [.mk k2 sp2 rc2 nm2 ps2 ls2], b3, u3, rfl, ⟨⟨vP, fP, v7, _, St.get_put_same (St.get_ok.1 g7).1, oP7.put g7, o7.put g7, hoP, fun j hj => ?_, hP1, hA1.app (IsEs.cons (by simp only [IsE]; exact ⟨x3, es2, y3, fs2, rfl, hx3, hp2, hy3, hl2, hfew⟩) IsEs.nil)⟩, w7.loc g7 h2.oa, ?_, h2.oh, h2.oa, h2.roh0⟩, ?_, ?_, ?_, ?_⟩
            · rcases hw7 j hj with h3 | h3
              · exact hoA j h3
              · have := k5.h; have := h2.k.h
                omega
            · have c2 := keeps_join (h2.k.trans k5) k7 fun j hj => .inr (hoA j hj)
              exact keeps_join c2 (Keeps.put (but := (· = o)) rfl) fun j hj => .inr (by rw [hj]; exact h2.oh)
            · rw [hr2, hren2]
              simp only [List.append_assoc, List.cons_append, List.nil_append]
            · rw [hr2]; omega
            · rw [hr2]; omega
            · rw [hr2, nEs_app]
              simp only [nEs]
              omega
      · simp only [ifB_decide, if_neg (show ¬ ((i + 1 : Nat) : Int) < (gs.length : Int) by omega)]
        have hn1 : ls.drop (i + 1) = [] := List.drop_eq_nil_of_le (by omega)
        have hn2 : ls.drop (i + 2) = [] := List.drop_eq_nil_of_le (by omega)
        rw [hn1] at hren2 hcb2 hcu2 hcA
        refine Goes.some ⟨s2, A, b2, ui, rfl, h2, ?_, by rw [hn2]; exact hcb2, by rw [hn2]; exact hcu2, by rw [hn2]; exact hcA⟩
        rw [hn2, hren2]
        simp only [armG]
    rintro c ⟨s3, A3, b3, u3, rfl, h3, hren3, hcb3, hcu3, hcA3⟩
    simp only [un0_nil]
    refine Goes.inl ?_
    exact ⟨s3, P2, A3, b3, u3, rfl, h3, hren3, hcb3, hcu3, hcP2, hcA3⟩
  · rintro q ⟨s, P, A, bi, ui, rfl, h, hren, _⟩
    have hw1 : IntKind.wrap .i64 (((max es.length (gs.length - 1) : Nat) : Int) + 1) = (((max es.length (gs.length - 1)) + 1 : Nat) : Int) := wrapA1 (by omega)
    rw [List.drop_eq_nil_of_le (by omega), List.drop_eq_nil_of_le (by omega)] at hren
    simp only [renArms, renAll, List.append_nil] at hren
    simp only [w32_L1, unc_cons, asI_int, un0_nil, hx.len, hz.len, letV_eq, hw1, ifB_decide, if_neg (show ¬ ((max es.length (gs.length - 1) : Nat) : Int) < (es.length : Int) by omega), decide_eq_false (show ¬ (((max es.length (gs.length - 1)) + 1 : Nat) : Int) < (gs.length : Int) by omega), bindO_ok, asB_bool, ifB_false]
    refine Goes.inr ?_
    refine ⟨s, rfl, ?_⟩
    rw [hren]
    exact h
end Go.Proofs.YtoopmjhdgkcleaaGreatDoor.Vm
/- The renamer: an expression. -/
set_option maxRecDepth 100000
set_option linter.unusedSimpArgs false
set_option maxHeartbeats 1000000
namespace Go.Proofs.YtoopmjhdgkcleaaGreatDoor.Vm
open Go Go.VM Go.Proofs Go.Scope

theorem renM_eq (us : List (Tx × Sp × Int)) (nms : List Tx) (ls : List Exr) (ps : List Pat) (b u : Nat) : renM us nms ls ps b u =
    ((renArms us nms (ls.drop 1) ps (renEs us nms (ls.take 1) b u).2.1 (renEs us nms (ls.take 1) b u).2.2).1, (renEs us nms (ls.take 1) b u).1 ++ (renArms us nms (ls.drop 1) ps (renEs us nms (ls.take 1) b u).2.1 (renEs us nms (ls.take 1) b u).2.2).2.1,
      (renArms us nms (ls.drop 1) ps (renEs us nms (ls.take 1) b u).2.1 (renEs us nms (ls.take 1) b u).2.2).2.2) := by
  cases ls with
  | nil => simp only [renM, List.take_nil, List.drop_nil, renEs, renArms, List.nil_append]
  | cons a r => simp only [renM, List.take_succ_cons, List.take_zero, List.drop_succ_cons, List.drop_zero, renEs, List.cons_append, List.nil_append]
abbrev ex0 : List AV := [.int .u8 0, .int .i64 0, .int .i64 0, .bool false, .str [], .nils, .nils]
/-- The name of a use, put. -/
theorem use_ok {st s2 : St} {a o : Nat} {yb yu yt nv : AV} {us : List (Tx × Sp × Int)} {nms : List Tx} {b u : Nat} (w2 : Rn s2 a yb yu yt nv us nms b u) (hu : u ≤ 100000000) {k : Nat} {sp : Sp} {rc : Bool} {nm : Tx} {y z : AV} (g2 : s2.get o = .ok (.cells 63 (exC k sp rc nm y z)))
    (hao : a ≠ o) (hro : s2.ro ≤ o) (k2 : Keeps st s2 (· = a)) (ho : st.h ≤ o) :
    Goes (bindO (chk (notNil (.mp a 0)) (fldA 5 (.mp a 0) fun v29 => loadS 1 false v29 s2 fun v30 _x => asI .i64 v30 fun n32 => chk (notNil (.mp a 0)) (fldA 0 (.mp a 0) fun v33 => fldA 1 v33 fun v34 => loadS 1 false v34 s2 fun v35 _x => lenS v35 fun k37 => ifB (decide (n32 < (↑k37 : Int)))
      (chk (notNil (.mp a 0)) (fldA 0 (.mp a 0) fun v38 => fldA 1 v38 fun v39 => loadS 1 false v39 s2 fun v40 _x => chk (notNil (.mp a 0)) (fldA 5 (.mp a 0) fun v42 => loadS 1 false v42 s2 fun v43 _x => asI .i64 v43 fun n45 => idxA 4 v40 n45 s2 fun v46 _x => fldA 3 v46 fun v48 => loadS 1 false v48 s2 fun
      v49 _x => asI .i64 v49 fun n51 => ifB (decide (n51 ≥ 0)) (chk (notNil (.mp a 0)) (fldA 0 (.mp a 0) fun v52 => fldA 1 v52 fun v53 => loadS 1 false v53 s2 fun v54 _x => chk (notNil (.mp a 0)) (fldA 5 (.mp a 0) fun v56 => loadS 1 false v56 s2 fun v57 _x => asI .i64 v57 fun n59 => idxA 4 v54 n59 s2 fun
      v60 _x => fldA 3 v60 fun v62 => loadS 1 false v62 s2 fun v63 _x => asI .i64 v63 fun n65 => chk (notNil (.mp a 0)) (fldA 3 (.mp a 0) fun v66 => loadS 1 false v66 s2 fun v67 _x => lenS v67 fun k69 => some ([AV.bool (decide (n65 < (↑k69 : Int)))], s2))))) (some ([AV.bool false], s2))))) (some ([AV.bool
      false], s2))))) fun c70 : Car => unc (Prod.fst c70) fun v71 l72 => asB v71 fun b73 => un0 l72 (bindO (ifB b73 (chk (notNil (.mp a 0)) (fldA 3 (.mp a 0) fun v74 => loadS 1 false v74 (Prod.snd c70) fun v75 _x => chk (notNil (.mp a 0)) (fldA 0 (.mp a 0) fun v77 => fldA 1 v77 fun v78 => loadS 1 false v78 (Prod.snd c70)
      fun v79 _x => chk (notNil (.mp a 0)) (fldA 5 (.mp a 0) fun v81 => loadS 1 false v81 (Prod.snd c70) fun v82 _x => asI .i64 v82 fun n84 => idxA 4 v79 n84 (Prod.snd c70) fun v85 _x => fldA 3 v85 fun v87 => loadS 1 false v87 (Prod.snd c70) fun v88 _x => asI .i64 v88 fun n90 => idxA 1 v75 n90 (Prod.snd c70)
      fun v91 _x => loadS 1 false v91 (Prod.snd c70) fun v93 _x => asS v93 fun l95 => storeS (orc vE) 1 (.mp o 4) (AV.str l95) [AV.str l95] (Prod.snd c70) fun _x st97 _x_2 => some (([] : List AV), st97))))) (some (([] : List AV), Prod.snd c70))) fun c99 : Car => un0 (Prod.fst c99) (chk (notNil (.mp a 0)) (fldA 5 (.mp a 0)
      fun v100 => loadS 1 false v100 (Prod.snd c99) fun v101 _x => asI .i64 v101 fun n103 => letV (IntKind.wrap .i64 (n103 + 1)) fun n104 => chk (notNil (.mp a 0)) (fldA 5 (.mp a 0) fun v105 => storeS (orc vE) 1 v105 (AV.int .i64 n104) [AV.int .i64 n104] (Prod.snd c99) fun _x st107 _x_2 => some (([] : List AV), st107))))))
    fun c => ∃ s4, c = ([], s4) ∧ s4.get o = .ok (.cells 63 (exC k sp rc (useNm us nms u nm) y z)) ∧ Rn s4 a yb yu yt nv us nms b (u + 1) ∧ Keeps st s4 (· = a) := by
  have lu := fun {γ : Type} (K : Nat → Option γ) => w2.hu.len K
  simp only [encU_len] at lu
  simp only [notNil_mp, chk_true, fldA_mp, Nat.zero_add, Nat.add_zero, loadS_mp w2.g, List.drop_succ_cons, List.drop_zero, takeO_one, bindO_ok, asI_int, lu, w2.nm.len]
  refine Goes.bind (R := fun c => ∃ t, c = ([.bool t], s2) ∧ useNm us nms u nm = (if t = true then nms.getD ((us[u]?.map fun q : Tx × Sp × Int => q.2.2).getD 0).toNat [] else nm) ∧ (t = true → ∃ q, us[u]? = some q ∧ 0 ≤ q.2.2 ∧ q.2.2 < (nms.length : Int))) ?_ ?_
  · cases hq : us[u]? with
    | none =>
      have hge : us.length ≤ u := List.getElem?_eq_none_iff.1 hq
      simp only [ifB_decide, if_neg (show ¬ (u : Int) < (us.length : Int) by omega)]
      refine Goes.some ⟨false, rfl, ?_, fun h => by cases h⟩
      unfold useNm
      rw [hq]; rfl
    | some q =>
      have hlt := (List.getElem?_eq_some_iff.1 hq).1
      have hi1 := fun {γ : Type} (s : St) (K : AV → List Nat → Option γ) => w2.hu.idx (encU_get hq) s K
      simp only [ifB_decide, if_pos (show (u : Int) < (us.length : Int) by omega), hi1, AV.cells, fldA_ip, List.drop_succ_cons, List.drop_zero, loadS_ip, takeO_one, bindO_ok, asI_int]
      by_cases h0 : q.2.2 ≥ 0
      · simp only [if_pos h0]
        by_cases h1 : q.2.2 < (nms.length : Int)
        · refine Goes.some ⟨true, by rw [decide_eq_true h1], ?_, fun _ => ⟨q, rfl, h0, h1⟩⟩
          unfold useNm
          rw [hq]
          show (if 0 ≤ q.2.2 ∧ q.2.2 < (nms.length : Int) then _ else _) = _
          rw [if_pos ⟨h0, h1⟩]
          rfl
        · refine Goes.some ⟨false, by rw [decide_eq_false h1], ?_, fun h => by cases h⟩
          unfold useNm
          rw [hq]
          show (if 0 ≤ q.2.2 ∧ q.2.2 < (nms.length : Int) then _ else _) = _
          rw [if_neg (fun h => h1 h.2)]
          rfl
      · simp only [if_neg h0]
        refine Goes.some ⟨false, rfl, ?_, fun h => by cases h⟩
        unfold useNm
        rw [hq]
        show (if 0 ≤ q.2.2 ∧ q.2.2 < (nms.length : Int) then _ else _) = _
        rw [if_neg (fun h => h0 h.1)]
        rfl
  rintro c ⟨t, rfl, hnm, ht⟩
  simp only [unc_cons, asB_bool, un0_nil]
  refine Goes.bind (R := fun c => ∃ s3, c = ([], s3) ∧ s3.get o = .ok (.cells 63 (exC k sp rc (useNm us nms u nm) y z)) ∧ Rn s3 a yb yu yt nv us nms b u ∧ Keeps st s3 (· = a)) ?_ ?_
  · cases t with
    | false =>
      simp only [ifB_false]
      refine Goes.some ⟨s2, rfl, ?_, w2, k2⟩
      rw [hnm]; exact g2
    | true =>
      obtain ⟨q, hq, h0, h1⟩ := ht rfl
      obtain ⟨j, hj⟩ : ∃ j : Nat, q.2.2 = (j : Int) := ⟨q.2.2.toNat, by omega⟩
      have hi1 := fun {γ : Type} (s : St) (K : AV → List Nat → Option γ) => w2.hu.idx (encU_get hq) s K
      rw [hj] at hi1
      obtain ⟨av, rd, rd2, i1, i2⟩ := w2.nm.idx (i := j) (by omega)
      have e3 := fun {γ : Type} (K : Kv γ) => storeS_at (O := orc vE) (cs := [.str (nms.getD j [])]) (z := 1) (off := 4) (v := .str (nms.getD j [])) g2 rfl (Nat.le_of_ble_eq_true rfl) hro K
      simp only [ifB_true, loadS_mp w2.g, hi1, AV.cells, fldA_ip, List.drop_succ_cons, List.drop_zero, loadS_ip, takeO_one, bindO_ok, asI_int, i1, i2, asS_str, e3]
      refine Goes.some ⟨_, rfl, ?_, w2.loc g2 hao, ?_⟩
      · rw [St.get_put_same (St.get_ok.1 g2).1, hnm, hq]
        simp only [if_true, Option.map_some, Option.getD_some, hj, Int.toNat_natCast]
        rfl
      · exact keeps_join k2 (Keeps.put (but := (· = o)) rfl) fun i hi => .inr (by rw [hi]; exact ho)
  rintro c ⟨s3, rfl, g3, w3, k3⟩
  have e4 := fun {γ : Type} (K : Kv γ) => storeS_at (O := orc vE) (cs := [.int .i64 ((u + 1 : Nat) : Int)]) (z := 1) (off := 5) (v := .int .i64 ((u + 1 : Nat) : Int)) w3.g rfl (Nat.le_of_ble_eq_true rfl) w3.ro K
  simp only [un0_nil, loadS_mp w3.g, List.drop_succ_cons, List.drop_zero, takeO_one, bindO_ok, asI_int, letV_eq, wrapA1 (show u + 1 ≤ 9223372036854775807 by omega), e4]
  refine Goes.some ⟨_, rfl, ?_, w3.setB b (u + 1), k3.trans (Keeps.put rfl)⟩
  rw [St.get_put_ne hao]; exact g3
end Go.Proofs.YtoopmjhdgkcleaaGreatDoor.Vm
/- The renamer: an expression, whole. -/
set_option maxRecDepth 100000
set_option linter.unusedSimpArgs false
set_option maxHeartbeats 1000000
namespace Go.Proofs.YtoopmjhdgkcleaaGreatDoor.Vm
open Go Go.VM Go.Proofs Go.Scope

/-- The renamed one is handed back. -/
theorem fin_ok {s : St} {o r : Nat} {k : Nat} {sp : Sp} {rc : Bool} {nm : Tx} {vP vA : AV} {fP fA : List AV} {P : List Pat} {A : List Exr} (g : s.get o = .ok (.cells 63 (exC k sp rc nm vP vA))) (hP : IsW 6 vP fP) (hp : IsPs P fP) (hA : IsW 7 vA fA) (hl : IsEs A fA) (few : P.length ≤ 100000000)
    (hr : s.get r = .ok (.cells 63 ex0)) (hro : s.ro ≤ r) {Q : AV × St → Prop}
    (q : ∀ w s', IsEo (.mk k sp rc nm P A) w → s' = s.put r (.cells 63 (exC k sp rc nm vP vA)) → Q (w, s')) :
    Goes (loadS 7 true (.mp o 0) s fun v217 _x => unA v217 fun l220 => unc l220 fun
 v221 l222 => asI .u8 v221 fun n223 => unc l222 fun v224 l225 => asI .i64 v224 fun n226 => unc l225 fun v227 l228 => asI .i64 v227 fun n229 => unc l228 fun v230 l231 => asB v230 fun b232 => unc l231 fun v233 l234 => asS v233 fun l235 => unc l234 fun v236 l237 => unc l237 fun v238 l239 => un0 l239 (asOne v236 (asOne v238 (storeS (orc vE) 7 (.mp r 0) (.agg [.int .u8 n223, .int .i64 n226, .int .i64 n229, .bool b232,
 .str l235, v236, v238]) [.int .u8 n223, .int .i64 n226, .int .i64 n229, .bool b232, .str l235, v236, v238] s fun _x st241 _x_4 => loadS 7 true (.mp r 0) st241 fun v243 _x
 => unA v243 fun l246 => unc l246 fun v247 l248 => asI .u8 v247 fun n249 => unc l248 fun v250 l251 => asI .i64 v250 fun n252 => unc l251 fun v253 l254 => asI .i64 v253 fun n255 => unc l254 fun v256 l257 => asB v256 fun
 b258 => unc l257 fun v259 l260 => asS v259 fun l261 => unc l260 fun v262 l263 => unc l263 fun v264 l265 => un0 l265 (some (.agg [.int .u8 n249, .int .i64 n252, .int .i64 n255, .bool b258, .str l261, v262,
 v264], st241)))))) Q := by
  have e1 := fun {γ : Type} (K : Kv γ) => storeS_at (O := orc vE) (cs := exC k sp rc nm vP vA) (z := 7) (off := 0) (v := .agg (exC k sp rc nm vP vA)) hr rfl (Nat.le_of_ble_eq_true rfl) hro K
  have e1 : ∀ {γ : Type} (K : Kv γ), storeS (orc vE) 7 (.mp r 0) (.agg (exC k sp rc nm vP vA)) (exC k sp rc nm vP vA) s K = K VM.undef (s.put r (.cells 63 (exC k sp rc nm vP vA))) ⟨[r], .wrote r (.cells 63 (exC k sp rc nm vP vA))⟩ := fun K => e1 K
  have g2 : (s.put r (.cells 63 (exC k sp rc nm vP vA))).get r = .ok (.cells 63 (exC k sp rc nm vP vA)) := St.get_put_same (St.get_ok.1 hr).1
  simp only [loadS_mp g, List.drop_zero, take7, bindO_ok, unA_agg, unc_cons, asI_int, asB_bool, asS_str, un0_nil, hP.asOne, hA.asOne, e1, loadS_mp g2]
  exact Goes.some (q _ _ ⟨vP, fP, vA, fA, rfl, hP, hp, hA, hl, few⟩ rfl)
theorem rexpr_ok {N : Nat} (hN : N ≤ 4000000) (us : List (Tx × Sp × Int)) (nms : List Tx) : ∀ n, RxOk us nms N n := by
  intro n
  induction n with
  | zero => intro e v st a yb yu yt nv b u h; omega
  | succ n ih =>
    intro e v st a yb yu yt nv b u hsz hE w hb hu
    cases e with
    | mk k sp rc nm ps ls =>
      simp only [Exr.mk.sizeOf_spec] at hsz
      have few := hE.few
      obtain ⟨x, es, y, fs, rfl, hx, hps, hy, hls⟩ := hE.opn
      have hszl : ∀ e ∈ ls, SizeOf.sizeOf e < n := fun e he => by
        have := List.sizeOf_lt_of_mem he
        omega
      simp only [nE] at hb hu
      have hal : a < st.h := w.lt
      refine Goes.wide (Goes.step (w32_eq _ _ _) ?_)
      obtain ⟨st1, hst1⟩ : ∃ s, s = st.add (.cells 63 ex0) := ⟨_, rfl⟩
      have hh1 : st1.h = st.h + 1 := by rw [hst1]; rfl
      have hr1 : st1.get st.h = .ok (.cells 63 ex0) := by rw [hst1]; exact St.get_add_new
      have k1 : Keeps st st1 (fun _ => False) := by rw [hst1]; exact Keeps.add _ _ _
      have w1 := w.new k1
      obtain ⟨s2, fx2, g2, k2, e2⟩ := lvE st1 k sp rc nm x y w1.roh
      have w2 := w1.new k2
      have k2' : Keeps st1 s2 (· = a) := keeps_weak k2 fun _ f => f.elim
      have hro2 : s2.ro ≤ st1.h := by rw [k2.ro]; exact w1.roh
      have hao : a ≠ st1.h := by omega
      unfold w32
      simp only [unA_agg, unc_cons, asI_int, asB_bool, asS_str, un0_nil, hx.asOne, hy.asOne, hx.fit1, hy.fit1]
      rw [← hst1]
      simp only [letSt_eq, hx.asOne, hy.asOne, e2]
      refine Goes.bind (R := fun c => ∃ s4, c = ([], s4) ∧ s4.get st1.h = .ok (.cells 63 (exC k sp rc (if k = 1 then useNm us nms u nm else nm) x y)) ∧ Rn s4 a yb yu yt nv us nms b (if k = 1 then u + 1 else u) ∧ Keeps st1 s4 (· = a)) ?_ ?_
      · by_cases hk : k = 1
        · have hkb : (((k : Nat) : Int) == 1) = true := by rw [hk]; rfl
          simp only [hkb, ifB_true, if_pos hk]
          exact use_ok w2 (by omega) g2 hao hro2 k2' (by omega)
        · have hkb : (((k : Nat) : Int) == 1) = false := by rw [beq_eq_false_iff_ne]; omega
          simp only [hkb, ifB_false, if_neg hk]
          exact Goes.some ⟨s2, rfl, g2, w2, k2'⟩
      rintro c ⟨s4, rfl, g4, w4, k4⟩
      have hu4 : (if k = 1 then u + 1 else u) + nPs ps + nEs ls ≤ N := by split <;> omega
      have hren : renE us nms (.mk k sp rc nm ps ls) b u = if k = 13 then
          (.mk k sp rc (if k = 1 then useNm us nms u nm else nm) (renM us nms ls ps b (if k = 1 then u + 1 else u)).1 (renM us nms ls ps b (if k = 1 then u + 1 else u)).2.1, (renM us nms ls ps b (if k = 1 then u + 1 else u)).2.2)
        else if k = 11 ∨ k = 14 then
          (.mk k sp rc (if k = 1 then useNm us nms u nm else nm) (renPs nms ps b).1 (renEs us nms ls (renPs nms ps b).2 (if k = 1 then u + 1 else u)).1, (renEs us nms ls (renPs nms ps b).2 (if k = 1 then u + 1 else u)).2)
        else (.mk k sp rc (if k = 1 then useNm us nms u nm else nm) ps (renEs us nms ls b (if k = 1 then u + 1 else u)).1, (renEs us nms ls b (if k = 1 then u + 1 else u)).2) := by
        simp only [renE]
        by_cases h1 : k = 13
        · rw [if_pos h1, if_pos h1, if_neg (show ¬ k = 1 by omega), if_neg (show ¬ k = 1 by omega)]
        · rw [if_neg h1, if_neg h1]
          by_cases h2 : k = 11 ∨ k = 14
          · rw [if_pos h2, if_pos h2, if_neg (show ¬ k = 1 by omega), if_neg (show ¬ k = 1 by omega)]
          · rw [if_neg h2, if_neg h2]
            by_cases h3 : k = 1
            · rw [if_pos h3, if_pos h3, if_pos h3]
            · rw [if_neg h3, if_neg h3, if_neg h3]
      generalize (if k = 1 then useNm us nms u nm else nm) = nm' at g4 hren
      generalize (if k = 1 then u + 1 else u) = u1 at w4 hu4 hren
      rw [hren]
      have hroh : st1.ro ≤ st.h := by rw [k1.ro]; exact w.roh
      simp only [un0_nil]
      by_cases hk : k = 13
      · have hkb : (((k : Nat) : Int) == 13) = true := by rw [hk]; rfl
        have hro4 : s4.ro ≤ st1.h := by rw [k4.ro]; omega
        have e5 := fun {γ : Type} (K : Kv γ) => storeS_at (O := orc vE) (cs := [.nils]) (z := 1) (off := 5) (v := .nils) g4 rfl (Nat.le_of_ble_eq_true rfl) hro4 K
        have e5 : ∀ {γ : Type} (K : Kv γ), storeS (orc vE) 1 (.mp st1.h 5) .nils [.nils] s4 K = K VM.undef (s4.put st1.h (.cells 63 (exC k sp rc nm' .nils y))) ⟨[st1.h], .wrote st1.h (.cells 63 (exC k sp rc nm' .nils y))⟩ := fun K => e5 K
        have w5 := w4.loc (t' := 63) (cs := exC k sp rc nm' .nils y) g4 hao
        have g5 : (s4.put st1.h (.cells 63 (exC k sp rc nm' .nils y))).get st1.h = .ok (.cells 63 (exC k sp rc nm' .nils y)) := St.get_put_same (St.get_ok.1 g4).1
        have k5 : Keeps st1 (s4.put st1.h (.cells 63 (exC k sp rc nm' .nils y))) (· = a) := keeps_join k4 (Keeps.put (but := (· = st1.h)) rfl) fun j hj => .inr (by rw [hj]; omega)
        generalize s4.put st1.h (.cells 63 (exC k sp rc nm' .nils y)) = s5 at *
        simp only [hkb, ifB_true, e5, hy.len, letV_eq]
        have hmin : (if ((fs.length : Nat) : Int) < 1 then ((fs.length : Nat) : Int) else 1) = ((min 1 fs.length : Nat) : Int) := by split <;> omega
        obtain ⟨y1, hy1, ey1⟩ := cut_to hy (m := min 1 fs.length) (by omega)
        have ht1 : fs.take (min 1 fs.length) = fs.take 1 := by
          rcases Nat.lt_or_ge fs.length 1 with h | h
          · rw [List.take_of_length_le (by omega), List.take_of_length_le (by omega)]
          · rw [show min 1 fs.length = 1 by omega]
        rw [ht1] at hy1
        have hle := nEs_app (ls.take 1) (ls.drop 1)
        rw [List.take_append_drop] at hle
        simp only [hmin, ey1]
        refine Goes.callW (rexprs_of hN ih (ls.take 1) (fs.take 1) y1 s5 a yb yu yt nv b u1 (fun e he => hszl e (List.mem_of_mem_take he)) (hls.take 1) hy1 w5 (by omega) (by omega)) rfl (nb1 _ _ _ _) ?_
        rintro v6 s6 ⟨v6', s6', fs6, ee, o6, ho6, hE6, w6, k6⟩
        cases ee
        have g6 := k6.old _ _ hao.symm g5
        have hro6 : s6.ro ≤ st1.h := by rw [k6.ro, k5.ro]; omega
        have e7 := fun {γ : Type} (K : Kv γ) => storeS_at (O := orc vE) (cs := [v6]) (z := 1) (off := 6) (v := v6) g6 rfl (Nat.le_of_ble_eq_true rfl) hro6 K
        have e7 : ∀ {γ : Type} (K : Kv γ), storeS (orc vE) 1 (.mp st1.h 6) v6 [v6] s6 K = K VM.undef (s6.put st1.h (.cells 63 (exC k sp rc nm' .nils v6))) ⟨[st1.h], .wrote st1.h (.cells 63 (exC k sp rc nm' .nils v6))⟩ := fun K => e7 K
        have w7 := w6.loc (t' := 63) (cs := exC k sp rc nm' .nils v6) g6 hao
        have g7 : (s6.put st1.h (.cells 63 (exC k sp rc nm' .nils v6))).get st1.h = .ok (.cells 63 (exC k sp rc nm' .nils v6)) := St.get_put_same (St.get_ok.1 g6).1
        have k7 : Keeps st1 (s6.put st1.h (.cells 63 (exC k sp rc nm' .nils v6))) (· = a) := keeps_join (k5.trans k6) (Keeps.put (but := (· = st1.h)) rfl) fun j hj => .inr (by rw [hj]; omega)
        have o7 := o6.put (t' := 63) (cs' := exC k sp rc nm' .nils v6) g6
        have h5h := k5.h
        simp only [o6.isW.asOne, e7]
        generalize s6.put st1.h (.cells 63 (exC k sp rc nm' .nils v6)) = s7 at *
        have hc := cntEs us nms (ls.take 1) b u1
        have hA0 := nEs_ren us nms (ls.take 1) b u1
        refine Goes.bind (R := fun c => ∃ s, c = (0, [], s) ∧ Arm st1 s a st1.h yb yu yt nv us nms k sp rc nm' (renM us nms ls ps b u1).1 (renM us nms ls ps b u1).2.1 (renM us nms ls ps b u1).2.2.1 (renM us nms ls ps b u1).2.2.2)
          (arms_ok hN ih rfl hps hx hls hy hszl (renM us nms ls ps b u1) s7 (renEs us nms (ls.take 1) b u1).1 _ _ ⟨⟨.nils, [], v6, fs6, g7, Own.nils w7.roh _ _, o7, (fun j hj => by obtain ⟨_, _, h⟩ := hj; cases h), fun j hj => Nat.le_trans h5h (ho6 j hj), IsPs.nil, hE6⟩, w7, k7, Nat.le_refl _, hao, w1.roh⟩
            (renM_eq us nms ls ps b u1) (by omega) (by omega) (by omega)) ?_
        rintro c ⟨s8, rfl, h8⟩
        have hr8 := h8.k.old _ _ (show ¬ st.h = a by omega) hr1
        obtain ⟨vP, fP, vA, fA, hg, oP, oA, hoP, hoA, hP1, hA1⟩ := h8.ex
        simp only [un0_nil, if_pos hk]
        refine fin_ok hg oP.isW hP1 oA.isW hA1 ?_ hr8 (by rw [h8.k.ro]; exact hroh) ?_
        · rw [renM_eq]
          simp only [renArms_len]
          exact few
        · rintro w9 s9 hw rfl
          refine ⟨w9, _, rfl, hw, h8.w.loc hr8 (by omega), ?_⟩
          exact keeps_join (keeps_join (keeps_weak k1 fun _ f => f.elim) h8.k fun j hj => .inl hj) (Keeps.put (but := (· = st.h)) rfl) fun j hj => .inr (by rw [hj]; exact Nat.le_refl _)
      · have hkb : (((k : Nat) : Int) == 13) = false := by rw [beq_eq_false_iff_ne]; omega
        simp only [hkb, ifB_false, if_neg hk]
        refine Goes.bind (R := fun c => c = ([.bool (decide (k = 11 ∨ k = 14))], s4)) ?_ ?_
        · by_cases h1 : k = 11
          · have hb1 : (((k : Nat) : Int) == 11) = true := by rw [h1]; rfl
            simp only [hb1, ifB_true]
            exact Goes.some (by rw [decide_eq_true (.inl h1)])
          · have hb1 : (((k : Nat) : Int) == 11) = false := by rw [beq_eq_false_iff_ne]; omega
            have hb2 : (((k : Nat) : Int) == 14) = decide (k = 11 ∨ k = 14) := by
              by_cases h2 : k = 14
              · rw [decide_eq_true (.inr h2), h2]; rfl
              · rw [decide_eq_false (by omega), beq_eq_false_iff_ne]; omega
            simp only [hb1, ifB_false, hb2]
            exact Goes.some rfl
        rintro c rfl
        simp only [unc_cons, asB_bool, un0_nil]
        refine Goes.bind (R := fun c => ∃ s5 vP fP, c = ([], s5) ∧ s5.get st1.h = .ok (.cells 63 (exC k sp rc nm' vP y)) ∧ IsW 6 vP fP ∧ (∀ s, Keeps s5 s (· = a) → IsW 6 vP fP) ∧ IsPs (if k = 11 ∨ k = 14 then (renPs nms ps b).1 else ps) fP ∧ Rn s5 a yb yu yt nv us nms (if k = 11 ∨ k = 14 then (renPs nms ps b).2 else b) u1 ∧ Keeps st1 s5 (· = a)) ?_ ?_
        · by_cases h1 : k = 11 ∨ k = 14
          · simp only [decide_eq_true h1, ifB_true, if_pos h1]
            refine Goes.callW (rpats_ok N hN _ ps es x s4 a yb yu yt nv us nms b u1 (Nat.lt_succ_self _) hps hx w4 (by omega)) rfl (nb1 _ _ _ _) ?_
            rintro v5 s5 ⟨v5', s5', fs5, e5, o5, hp5, w5, k5⟩
            cases e5
            have g5 := k5.old _ _ hao.symm g4
            have hro5 : s5.ro ≤ st1.h := by rw [k5.ro, k4.ro]; omega
            have e6 := fun {γ : Type} (K : Kv γ) => storeS_at (O := orc vE) (cs := [v5]) (z := 1) (off := 5) (v := v5) g5 rfl (Nat.le_of_ble_eq_true rfl) hro5 K
            simp only [o5.isW.asOne, e6]
            refine Goes.some ⟨_, v5, fs5, rfl, St.get_put_same (St.get_ok.1 g5).1, o5.isW, fun _ _ => o5.isW, hp5, w5.loc g5 hao, ?_⟩
            exact keeps_join (k4.trans k5) (Keeps.put (but := (· = st1.h)) rfl) fun j hj => .inr (by rw [hj]; omega)
          · simp only [decide_eq_false h1, ifB_false, if_neg h1]
            exact Goes.some ⟨s4, x, es, rfl, g4, .inl hx, fun _ _ => .inl hx, hps, w4, k4⟩
        rintro c ⟨s5, vP, fP, rfl, g5, hP, _, hp5, w5, k5⟩
        have hb5 : (if k = 11 ∨ k = 14 then (renPs nms ps b).2 else b) + nEs ls ≤ N := by
          have := cntPs nms ps b
          split <;> omega
        have few5 : (if k = 11 ∨ k = 14 then (renPs nms ps b).1 else ps).length ≤ 100000000 := by
          split
          · rw [renPs_len]; exact few
          · exact few
        have hren2 : (if k = 11 ∨ k = 14 then (Exr.mk k sp rc nm' (renPs nms ps b).1 (renEs us nms ls (renPs nms ps b).2 u1).1, (renEs us nms ls (renPs nms ps b).2 u1).2) else (Exr.mk k sp rc nm' ps (renEs us nms ls b u1).1, (renEs us nms ls b u1).2)) =
            (Exr.mk k sp rc nm' (if k = 11 ∨ k = 14 then (renPs nms ps b).1 else ps) (renEs us nms ls (if k = 11 ∨ k = 14 then (renPs nms ps b).2 else b) u1).1, (renEs us nms ls (if k = 11 ∨ k = 14 then (renPs nms ps b).2 else b) u1).2) := by
          split <;> rfl
        rw [hren2]
        generalize (if k = 11 ∨ k = 14 then (renPs nms ps b).1 else ps) = P at *
        generalize (if k = 11 ∨ k = 14 then (renPs nms ps b).2 else b) = b5 at *
        simp only [un0_nil]
        refine Goes.callW (rexprs_of hN ih ls fs y s5 a yb yu yt nv b5 u1 hszl hls hy w5 hb5 (by omega)) rfl (nb1 _ _ _ _) ?_
        rintro v6 s6 ⟨v6', s6', fs6, ee, o6, ho6, hE6, w6, k6⟩
        cases ee
        have g6 := k6.old _ _ hao.symm g5
        have hro6 : s6.ro ≤ st1.h := by rw [k6.ro, k5.ro]; omega
        have e7 := fun {γ : Type} (K : Kv γ) => storeS_at (O := orc vE) (cs := [v6]) (z := 1) (off := 6) (v := v6) g6 rfl (Nat.le_of_ble_eq_true rfl) hro6 K
        have e7 : ∀ {γ : Type} (K : Kv γ), storeS (orc vE) 1 (.mp st1.h 6) v6 [v6] s6 K = K VM.undef (s6.put st1.h (.cells 63 (exC k sp rc nm' vP v6))) ⟨[st1.h], .wrote st1.h (.cells 63 (exC k sp rc nm' vP v6))⟩ := fun K => e7 K
        have w7 := w6.loc (t' := 63) (cs := exC k sp rc nm' vP v6) g6 hao
        have g7 : (s6.put st1.h (.cells 63 (exC k sp rc nm' vP v6))).get st1.h = .ok (.cells 63 (exC k sp rc nm' vP v6)) := St.get_put_same (St.get_ok.1 g6).1
        have k7 : Keeps st1 (s6.put st1.h (.cells 63 (exC k sp rc nm' vP v6))) (· = a) := keeps_join (k5.trans k6) (Keeps.put (but := (· = st1.h)) rfl) fun j hj => .inr (by rw [hj]; omega)
        simp only [o6.isW.asOne, e7]
        have hr7 := k7.old _ _ (show ¬ st.h = a by omega) hr1
        refine fin_ok g7 hP hp5 o6.isW hE6 few5 hr7 (by rw [k7.ro]; exact hroh) ?_
        rintro w9 s9 hw rfl
        refine ⟨w9, _, rfl, hw, w7.loc hr7 (by omega), ?_⟩
        exact keeps_join (keeps_join (keeps_weak k1 fun _ f => f.elim) k7 fun j hj => .inl hj) (Keeps.put (but := (· = st.h)) rfl) fun j hj => .inr (by rw [hj]; exact Nat.le_refl _)
end Go.Proofs.YtoopmjhdgkcleaaGreatDoor.Vm
set_option maxRecDepth 1000000
set_option maxHeartbeats 0
namespace Go.Proofs.YtoopmjhdgkcleaaGreatDoor.Vm
open Go Go.VM Go.Proofs
/-- rostrum/rostrumlaw15.renamed -/
noncomputable def g18_L1 (x0 : AV) : Car → Option (Car ⊕ Nat × Car) := fun c13 => unc (Prod.fst c13) fun v14 l15 => unc l15 fun v16 l17 => asI .i64 v16 fun n18 => un0 l17 (lenS x0 fun k19 => ifB (decide (n18 < (↑k19 :
 Int))) (idxA 11 x0 n18 (Prod.snd c13) fun v20 _x => loadS 11 true v20 (Prod.snd c13) fun v22 _x => unA v22 fun l25 => unc l25 fun v26 l27 => asI .i64 v26 fun n28 => unc l27 fun v29 l30 => asI .i64 v29 fun n31 => unc l30
 fun v32 l33 => asB v32 fun b34 => unc l33 fun v35 l36 => unc l36 fun v37 l38 => asI .u8 v37 fun n39 => unc l38 fun v40 l41 => asI .i64 v40 fun n42 => unc l41 fun v43 l44 => asI .i64 v43 fun n45 => unc l44 fun v46 l47 =>
 asB v46 fun b48 => unc l47 fun v49 l50 => asS v49 fun l51 => unc l50 fun v52 l53 => unc l53 fun v54 l55 => un0 l55 (letSt (St.add (Prod.snd c13) (VM.Obj.cells 65 [AV.int .i64 0, AV.int .i64 0, AV.bool false, AV.nils,
 AV.int .u8 0, AV.int .i64 0, AV.int .i64 0, AV.bool false, AV.str [], AV.nils, AV.nils])) fun st56 => asOne v35 (asOne v52 (asOne v54 (storeS (orc vE) 11 (AV.mp (St.h (Prod.snd c13)) 0) (AV.agg [AV.int .i64 n28, AV.int
 .i64 n31, AV.bool b34, v35, AV.int .u8 n39, AV.int .i64 n42, AV.int .i64 n45, AV.bool b48, AV.str l51, v52, v54]) [AV.int .i64 n28, AV.int .i64 n31, AV.bool b34, v35, AV.int .u8 n39, AV.int .i64 n42, AV.int .i64 n45,
 AV.bool b48, AV.str l51, v52, v54] st56 fun _x st58 _x_1 => idxA 11 x0 n18 st58 fun v60 _x => fldA 3 v60 fun v62 => loadS 1 false v62 st58 fun v63 _x => callS (orc vE) 31 [AV.mp 0 0, v63] st58 fun v65 st66 _x => asOne
 v65 (asOne v65 (storeS (orc vE) 1 (AV.mp (St.h (Prod.snd c13)) 3) v65 [v65] st66 fun _x st69 _x_2 => idxA 11 x0 n18 st69 fun v71 _x => fldA 4 v71 fun v73 => loadS 7 true v73 st69 fun v74 _x => unA v74 fun l77 => unc l77
 fun v78 l79 => asI .u8 v78 fun n80 => unc l79 fun v81 l82 => asI .i64 v81 fun n83 => unc l82 fun v84 l85 => asI .i64 v84 fun n86 => unc l85 fun v87 l88 => asB v87 fun b89 => unc l88 fun v90 l91 => asS v90 fun l92 => unc
 l91 fun v93 l94 => unc l94 fun v95 l96 => un0 l96 (callS (orc vE) 32 [AV.mp 0 0, AV.agg [AV.int .u8 n80, AV.int .i64 n83, AV.int .i64 n86, AV.bool b89, AV.str l92, v93, v95]] st69 fun v97 st98 _x => unA v97 fun l101 =>
 unc l101 fun v102 l103 => asI .u8 v102 fun n104 => unc l103 fun v105 l106 => asI .i64 v105 fun n107 => unc l106 fun v108 l109 => asI .i64 v108 fun n110 => unc l109 fun v111 l112 => asB v111 fun b113 => unc l112 fun v114
 l115 => asS v114 fun l116 => unc l115 fun v117 l118 => unc l118 fun v119 l120 => un0 l120 (asOne v117 (asOne v119 (storeS (orc vE) 7 (AV.mp (St.h (Prod.snd c13)) 4) (AV.agg [AV.int .u8 n104, AV.int .i64 n107, AV.int
 .i64 n110, AV.bool b113, AV.str l116, v117, v119]) [AV.int .u8 n104, AV.int .i64 n107, AV.int .i64 n110, AV.bool b113, AV.str l116, v117, v119] st98 fun _x st122 _x_3 => loadS 11 true (AV.mp (St.h (Prod.snd c13)) 0)
 st122 fun v124 _x => unA v124 fun l127 => unc l127 fun v128 l129 => asI .i64 v128 fun n130 => unc l129 fun v131 l132 => asI .i64 v131 fun n133 => unc l132 fun v134 l135 => asB v134 fun b136 => unc l135 fun v137 l138 =>
 unc l138 fun v139 l140 => asI .u8 v139 fun n141 => unc l140 fun v142 l143 => asI .i64 v142 fun n144 => unc l143 fun v145 l146 => asI .i64 v145 fun n147 => unc l146 fun v148 l149 => asB v148 fun b150 => unc l149 fun v151
 l152 => asS v151 fun l153 => unc l152 fun v154 l155 => unc l155 fun v156 l157 => un0 l157 (asOne v137 (asOne v154 (asOne v156 (asOne v137 (asOne v154 (asOne v156 (fit1 v137 fun v158 => fit1 v154 fun v159 => fit1 v156
 fun v160 => asOne v158 (asOne v159 (asOne v160 (fit1 v158 fun v161 => fit1 v159 fun v162 => fit1 v160 fun v163 => appS 11 144 65 v14 [AV.agg [AV.int .i64 n130, AV.int .i64 n133, AV.bool b136, v161, AV.int .u8 n141,
 AV.int .i64 n144, AV.int .i64 n147, AV.bool b150, AV.str l153, v162, v163]] st122 fun v164 st165 _x => letV (IntKind.wrap .i64 (n18 + 1)) fun n167 => some (Sum.inl ([v164, AV.int .i64 n167], st165)))))))))))))))))))))))
 (some (Sum.inr (0, [v14], Prod.snd c13))))
noncomputable def g18 : AV → AV → AV → Option AV := fun x0 x1 x2 => unA x1 fun l1 => unc l1 fun v2 l3 => unc l3 fun v4 l5 => unc l5 fun v6 l7 => un0 l7 (asOne v2 (asOne v4 (asOne v6 (fit1 v2 fun v8 => fit1 v4 fun v9 =>
 fit1 v6 fun v10 => asOne x2 (asOne v8 (asOne v9 (asOne v10 (asOne x2 (bindO (loopO (g18_L1 x0) ([AV.nils, AV.int .i64 0], St.mk 1 0 (Tr.node (some (VM.Obj.cells 97 [v8, v9, v10, x2, AV.int .i64 0, AV.int .i64 0]))
 Tr.leaf Tr.leaf))) fun c168 => unc (Prod.fst (Prod.snd c168)) fun v169 l170 => un0 l170 (frzS (Prod.snd (Prod.snd c168)) 0 (oneOf [v169]) fun v171 => some v171))))))))))
theorem g18_eq (x0 x1 x2 : AV) : bareS vE 18 [x0, x1, x2] = g18 x0 x1 x2 := by kernel_rfl
end Go.Proofs.YtoopmjhdgkcleaaGreatDoor.Vm
/- A program with other names. -/
set_option maxRecDepth 100000
set_option linter.unusedSimpArgs false
set_option maxHeartbeats 1000000
namespace Go.Proofs.YtoopmjhdgkcleaaGreatDoor.Vm
open Go Go.VM Go.Proofs Go.Scope

abbrev bdC (s0 : Sp) (r0 : Bool) (x : AV) (k : Nat) (sp : Sp) (rc : Bool) (nm : Tx) (y z : AV) : List AV := [.int .i64 s0.1, .int .i64 s0.2, .bool r0, x, .int .u8 (k : Int), .int .i64 sp.1, .int .i64 sp.2, .bool rc, .str nm, y, z]
theorem nDs_ren (us : List (Tx × Sp × Int)) (nms : List Tx) : ∀ (l : List Bd) (b u : Nat), nDs (renD us nms l b u) = nDs l
  | [], _, _ => rfl
  | d :: l, b, u => by simp only [renD, nDs, nPs_ren, nE_ren, nDs_ren us nms l]
theorem IsDs.cons {d : Bd} {l : List Bd} {v : AV} {es : List AV} (h : IsD d v) (k : IsDs l es) : IsDs (d :: l) (v :: es) := by
  simp only [IsDs]; exact ⟨v, es, rfl, h, k⟩
theorem ren_loop {N : Nat} (hN : N ≤ 4000000) {l : List Bd} {ds : List AV} {x0 : AV} {st st1 : St} {us : List (Tx × Sp × Int)} {yb yu yt nv : AV} {nms : List Tx} (hl : IsDs l ds) (hx : IsSl 11 x0 ds) (w1 : Rn st1 st.h yb yu yt nv us nms 0 0) (hn : nDs l ≤ N) :
    Goes (loopO (w18_L1 x0 st) ([.nils, .int .i64 0], st1)) fun c => ∃ v s es, c = (0, [v], s) ∧ Own s 11 65 v es ∧ IsDs (renD us nms l 0 0) es ∧ Keeps st1 s (· = st.h) ∧ ∀ j, ownerOf v j → st1.h ≤ j := by
  have hxl := hx.1
  refine Goes.upto (n := ds.length) (I := fun i q => ∃ v s fs pre bi ui, q = ([v, .int .i64 (i : Int)], s) ∧ Own s 11 65 v fs ∧ (∀ j, ownerOf v j → st1.h ≤ j) ∧ IsDs pre fs ∧ Rn s st.h yb yu yt nv us nms bi ui ∧ Keeps st1 s (· = st.h) ∧
      renD us nms l 0 0 = pre ++ renD us nms (l.drop i) bi ui ∧ bi + nDs (l.drop i) ≤ N ∧ ui + nDs (l.drop i) ≤ N) ?_ ?_ ds.length 0 _ (by omega)
      ⟨.nils, st1, [], [], 0, 0, rfl, Own.nils w1.roh _ _, (fun j hj => by obtain ⟨_, _, h⟩ := hj; cases h), by simp only [IsDs], w1, Keeps.refl _ _, rfl, by simpa using hn, by simpa using hn⟩
  · rintro i q hi ⟨v, s, fs, pre, bi, ui, rfl, o, ho, hpre, w2, k2, hren, hcb, hcu⟩
    obtain ⟨d, r, hd⟩ := drop_at (l := l) (i := i) (by rw [← hl.len]; exact hi)
    obtain ⟨dv, hv, hD, _⟩ := hl.get hd
    have hr2 := (drop_cons hd).2.1
    obtain ⟨k, sp, rc, nm, qs, ls, x1, es1, y, gs, z, hs, hbody, rfl, hx1, hp1, hy1, hq1, hz1, hl1, hE⟩ := hD.opn
    have hlt : (i : Int) < (ds.length : Int) := by omega
    have hi1 := fun {γ : Type} (s : St) (K : AV → List Nat → Option γ) => hx.idx hv s K
    obtain ⟨s0, r0, P, B⟩ := d
    dsimp only at hbody hp1 hi1
    subst hbody
    rw [hd] at hren hcb hcu
    simp only [nDs] at hcb hcu
    obtain ⟨s3, fx3, g3, k3, e3⟩ := lvB s (bdC s0 r0 x1 k sp rc nm y z) rfl w2.roh
    have w3 := w2.new k3
    have hal : st.h ≠ s.h := by have := w2.lt; omega
    have hfl : fs.length ≤ N := by
      have h1 := nDs_len (renD us nms l 0 0)
      rw [nDs_ren] at h1
      have h2 := hpre.len
      have h3 : pre.length ≤ (renD us nms l 0 0).length := by rw [hren]; simp
      omega
    have hs1 : st1.h ≤ s.h := k2.h
    simp only [w18_L1, unc_cons, asI_int, un0_nil, hx.len, ifB_decide, if_pos hlt, hi1, AV.cells, loadS_ip, take11, bindO_ok, unA_agg, asB_bool, asS_str, letSt_eq, hx1.asOne, hy1.asOne, hz1.asOne, e3, fldA_ip, List.drop_succ_cons, List.drop_zero, takeO_one]
    refine Goes.callW (rpats_ok N hN _ P es1 x1 s3 st.h yb yu yt nv us nms bi ui (Nat.lt_succ_self _) hp1 hx1 w3 (by omega)) rfl (nb1 _ _ _ _) ?_
    rintro v5 s5 ⟨v5', s5', fs5, e5, o5, hp5, w5, k5⟩
    cases e5
    have g5 := k5.old _ _ hal.symm g3
    have hro5 : s5.ro ≤ s.h := by rw [k5.ro, k3.ro]; exact w2.roh
    have e6 := fun {γ : Type} (K : Kv γ) => storeS_at (O := orc vE) (cs := [v5]) (z := 1) (off := 3) (v := v5) g5 rfl (Nat.le_of_ble_eq_true rfl) hro5 K
    have e6 : ∀ {γ : Type} (K : Kv γ), storeS (orc vE) 1 (.mp s.h 3) v5 [v5] s5 K = K VM.undef (s5.put s.h (.cells 65 (bdC s0 r0 v5 k sp rc nm y z))) ⟨[s.h], .wrote s.h (.cells 65 (bdC s0 r0 v5 k sp rc nm y z))⟩ := fun K => e6 K
    have w6 := w5.loc (t' := 65) (cs := bdC s0 r0 v5 k sp rc nm y z) g5 hal
    have g6 : (s5.put s.h (.cells 65 (bdC s0 r0 v5 k sp rc nm y z))).get s.h = .ok (.cells 65 (bdC s0 r0 v5 k sp rc nm y z)) := St.get_put_same (St.get_ok.1 g5).1
    have o3 := own_keep o k3 (fun _ _ f => f)
    have o5' := own_keep o3 k5 (own_ne o3 w3.g)
    have o6 := o5'.put (t' := 65) (cs' := bdC s0 r0 v5 k sp rc nm y z) g5
    have k6 : Keeps st1 (s5.put s.h (.cells 65 (bdC s0 r0 v5 k sp rc nm y z))) (· = st.h) := keeps_join (keeps_join (keeps_join k2 k3 fun _ f => f.elim) k5 fun j hj => .inl hj) (Keeps.put (but := (· = s.h)) rfl) fun j hj => .inr (by rw [hj]; omega)
    simp only [o5.isW.asOne, e6]
    generalize s5.put s.h (.cells 65 (bdC s0 r0 v5 k sp rc nm y z)) = s6 at *
    have hc5 := cntPs nms P bi
    have hcall := rexpr_ok hN us nms (SizeOf.sizeOf (Exr.mk k sp rc nm qs ls) + 1) (Exr.mk k sp rc nm qs ls) _ s6 st.h yb yu yt nv (renPs nms P bi).2 ui (Nat.lt_succ_self _) hE w6 (by omega) (by omega)
    simp only [hi1, AV.cells, fldA_ip, List.drop_succ_cons, List.drop_zero, loadS_ip, take7, bindO_ok, unA_agg, unc_cons, asI_int, asB_bool, asS_str, un0_nil]
    refine Goes.callW hcall rfl (nb1 _ _ _ _) ?_
    rintro v7 s7 ⟨v7', s7', e7, hEo, w7, k7⟩
    cases e7
    have g7 := k7.old _ _ hal.symm g6
    have o7 := own_keep o6 k7 (own_ne o6 w6.g)
    have hcn := cntE us nms (Exr.mk k sp rc nm qs ls) (renPs nms P bi).2 ui
    simp only [renD] at hren
    generalize renE us nms (.mk k sp rc nm qs ls) (renPs nms P bi).2 ui = R at *
    obtain ⟨e2, b3, u3⟩ := R
    dsimp only at hEo w7 hcn hren
    cases e2 with
    | mk kk sp2 rc2 nm2 ps2 ls2 =>
      obtain ⟨x2, es2, y2, fs2, rfl, hx2, hp2, hy2, hl2, hfew⟩ := hEo
      obtain ⟨x3, hx3, ex⟩ := hx2.fit
      obtain ⟨y3, hy3, ey⟩ := hy2.fit
      obtain ⟨v5f, hv5, ev⟩ := o5.isW.fit
      have hro7 : s7.ro ≤ s.h := by rw [k7.ro, k6.ro, ← k2.ro]; exact w2.roh
      have e8 := fun {γ : Type} (K : Kv γ) => storeS_at (O := orc vE) (cs := [.int .u8 (kk : Int), .int .i64 sp2.1, .int .i64 sp2.2, .bool rc2, .str nm2, x2, y2]) (z := 7) (off := 4) (v := .agg [.int .u8 (kk : Int), .int .i64 sp2.1, .int .i64 sp2.2, .bool rc2, .str nm2, x2, y2]) g7 rfl (Nat.le_of_ble_eq_true rfl) hro7 K
      have e8 : ∀ {γ : Type} (K : Kv γ), storeS (orc vE) 7 (.mp s.h 4) (.agg [.int .u8 (kk : Int), .int .i64 sp2.1, .int .i64 sp2.2, .bool rc2, .str nm2, x2, y2]) [.int .u8 (kk : Int), .int .i64 sp2.1, .int .i64 sp2.2, .bool rc2, .str nm2, x2, y2] s7 K =
          K VM.undef (s7.put s.h (.cells 65 (bdC s0 r0 v5 kk sp2 rc2 nm2 x2 y2))) ⟨[s.h], .wrote s.h (.cells 65 (bdC s0 r0 v5 kk sp2 rc2 nm2 x2 y2))⟩ := fun K => e8 K
      have w8 := w7.loc (t' := 65) (cs := bdC s0 r0 v5 kk sp2 rc2 nm2 x2 y2) g7 hal
      have g8 : (s7.put s.h (.cells 65 (bdC s0 r0 v5 kk sp2 rc2 nm2 x2 y2))).get s.h = .ok (.cells 65 (bdC s0 r0 v5 kk sp2 rc2 nm2 x2 y2)) := St.get_put_same (St.get_ok.1 g7).1
      have o8 := o7.put (t' := 65) (cs' := bdC s0 r0 v5 kk sp2 rc2 nm2 x2 y2) g7
      have k8 : Keeps st1 (s7.put s.h (.cells 65 (bdC s0 r0 v5 kk sp2 rc2 nm2 x2 y2))) (· = st.h) := keeps_join (k6.trans k7) (Keeps.put (but := (· = s.h)) rfl) fun j hj => .inr (by rw [hj]; omega)
      simp only [unA_agg, unc_cons, asI_int, asB_bool, asS_str, un0_nil, hx2.asOne, hy2.asOne, e8]
      generalize s7.put s.h (.cells 65 (bdC s0 r0 v5 kk sp2 rc2 nm2 x2 y2)) = s8 at *
      obtain ⟨v9, s9, fx9, e9, o9, k9, hw9⟩ := app_own (b := 144) (new := [.agg (bdC s0 r0 v5f kk sp2 rc2 nm2 x3 y3)]) o8 (by simp) (room_of (by simp; omega) (by omega) (by omega))
      have e9' := fun {γ : Type} (K : Kv γ) => appS_of e9 K
      simp only [loadS_mp g8, List.drop_zero, take11, bindO_ok, unA_agg, unc_cons, asI_int, asB_bool, asS_str, un0_nil, o5.isW.asOne, hx2.asOne, hy2.asOne, ev, ex, ey, hv5.asOne, hx3.asOne, hy3.asOne, hv5.fit1, hx3.fit1, hy3.fit1, e9', letV_eq, wrap1 hi hxl]
      refine Goes.inl ?_
      refine ⟨v9, s9, _, pre ++ [⟨s0, r0, (renPs nms P bi).1, .mk kk sp2 rc2 nm2 ps2 ls2⟩], b3, u3, rfl, o9, fun j hj => ?_, ?_, w8.own o8 k9, keeps_join k8 k9 fun j hj => .inr (ho j hj), ?_, ?_, ?_⟩
      · rcases hw9 j hj with h1 | h1
        · exact ho j h1
        · have := k8.h; omega
      · refine hpre.app (IsDs.cons ⟨v5f, fs5, [.int .u8 (kk : Int), .int .i64 sp2.1, .int .i64 sp2.2, .bool rc2, .str nm2, x3, y3], rfl, hv5, hp5, ?_⟩ (by simp only [IsDs]))
        simp only [IsE]
        exact ⟨x3, es2, y3, fs2, rfl, hx3, hp2, hy3, hl2, hfew⟩
      · rw [hr2, hren]
        simp only [List.append_assoc, List.cons_append, List.nil_append]
      · rw [hr2]; omega
      · rw [hr2]; omega
  · rintro q ⟨v, s, fs, pre, bi, ui, rfl, o, ho, hpre, w2, k2, hren, _, _⟩
    have hlt : ¬ (ds.length : Int) < (ds.length : Int) := by omega
    rw [List.drop_eq_nil_of_le (by rw [← hl.len]; exact Nat.le_refl _)] at hren
    simp only [renD, List.append_nil] at hren
    simp only [w18_L1, unc_cons, asI_int, un0_nil, hx.len, ifB_decide, if_neg hlt]
    refine Goes.inr ?_
    exact ⟨v, s, fs, rfl, o, by rw [hren]; exact hpre, k2, ho⟩
theorem renamed_ok {N : Nat} (hN : N ≤ 4000000) {l : List Bd} {ds : List AV} {x0 : AV} {st : St} {t : Tb} {v1 nv : AV} {nms : List Tx} (hl : IsDs l ds) (hx : IsSl 11 x0 ds) (ht : IsTb t v1) (hnm : Nm st nv nms) (hlen : nms.length ≤ 1000000000) (hro : st.ro ≤ st.h) (hn : nDs l ≤ N) :
    Goes ((orc vE).wide 18 [x0, v1, nv] st) fun r => ∃ v s es, r = (v, s) ∧ Own s 11 65 v es ∧ IsDs (renD t.us nms l 0 0) es ∧ Keeps st s (fun _ => False) := by
  obtain ⟨yb, yu, yt, rfl, hb, hu, hy⟩ := ht
  have e1 := fun {γ : Type} (K : Option γ) => asOne_of hnm.one K
  refine Goes.wide (Goes.step (w18_eq _ _ _ _) ?_)
  obtain ⟨st1, hst1⟩ : ∃ s, s = st.add (.cells 97 [yb, yu, yt, nv, .int .i64 ((0 : Nat) : Int), .int .i64 ((0 : Nat) : Int)]) := ⟨_, rfl⟩
  have hh1 : st1.h = st.h + 1 := by rw [hst1]; rfl
  have k1 : Keeps st st1 (fun _ => False) := by rw [hst1]; exact Keeps.add _ _ _
  have w1 : Rn st1 st.h yb yu yt nv t.us nms 0 0 := ⟨by rw [hst1]; exact St.get_add_new, hu, hnm.keep k1 (fun _ _ _ _ _ _ f => f), by rw [k1.ro]; exact hro, by rw [k1.ro]; omega, hlen⟩
  have hst1' : st.add (.cells 97 [yb, yu, yt, nv, .int .i64 0, .int .i64 0]) = st1 := hst1.symm
  unfold w18
  simp only [unA_agg, unc_cons, un0_nil, hb.asOne, hu.asOne, hy.asOne, hb.fit1, hu.fit1, hy.fit1, e1, letSt_eq, hst1']
  refine Goes.bind (ren_loop hN hl hx w1 hn) ?_
  rintro c ⟨v, s, fs, rfl, o, hpre, k2, ho⟩
  simp only [unc_cons, un0_nil, oneOf_one]
  refine Goes.some ⟨v, s, fs, rfl, o, hpre, ?_⟩
  exact keeps_join k1 k2 fun j hj => .inr (by rw [hj]; exact Nat.le_refl _)
theorem gL1_eq (x0 : AV) : g18_L1 x0 = w18_L1 x0 S0 := by kernel_rfl
theorem callR {N : Nat} (hN : N ≤ 4000000) {l : List Bd} {ds : List AV} {x0 : AV} {st : St} {t : Tb} {v1 nv : AV} {nms : List Tx} (hl : IsDs l ds) (hx : IsSl 11 x0 ds) (ht : IsTb t v1) (hnm : Nm st nv nms) (hlen : nms.length ≤ 1000000000) (hro : st.ro ≤ st.h) (hn : nDs l ≤ N) {β : Type} {K : Kv β} {Q : β → Prop}
    (g : ∀ v s es fx, IsW 11 v es → IsDs (renD t.us nms l 0 0) es → Keeps st s (fun _ => False) → s.ro ≤ s.h → (fx = ⟨[], .all st s⟩ ∨ fx = q0) → Goes (K v s fx) Q) :
    Goes (callS (orc vE) 18 [x0, v1, nv] st K) Q := by
  rcases hnm with ⟨rfl, rfl⟩ | ⟨k, rfl, hg⟩
  · have hb : Goes ((orc vE).bare 18 [x0, v1, .nils]) fun v => ∃ es, IsSl 11 v es ∧ IsDs (renD t.us [] l 0 0) es := by
      obtain ⟨yb, yu, yt, rfl, hb, hu, hy⟩ := ht
      refine Goes.bare rfl (Goes.step (g18_eq _ _ _) ?_)
      have w1 : Rn (S0.add (.cells 97 [yb, yu, yt, .nils, .int .i64 ((0 : Nat) : Int), .int .i64 ((0 : Nat) : Int)])) S0.h yb yu yt .nils t.us [] 0 0 :=
        ⟨St.get_add_new, hu, .inl ⟨rfl, rfl⟩, Nat.le_refl _, Nat.zero_le _, Nat.zero_le _⟩
      unfold g18
      simp only [unA_agg, unc_cons, un0_nil, hb.asOne, hu.asOne, hy.asOne, hb.fit1, hu.fit1, hy.fit1, asOne_of (v := .nils) rfl]
      have hs1 : St.mk 1 0 (Tr.node (some (VM.Obj.cells 97 [yb, yu, yt, .nils, .int .i64 0, .int .i64 0])) Tr.leaf Tr.leaf) = S0.add (.cells 97 [yb, yu, yt, .nils, .int .i64 ((0 : Nat) : Int), .int .i64 ((0 : Nat) : Int)]) := by kernel_rfl
      rw [gL1_eq, hs1]
      refine Goes.bind (ren_loop hN hl hx w1 hn) ?_
      rintro c ⟨v, s, fs, rfl, o, hpre, k2, ho⟩
      obtain ⟨y, hy, ef⟩ := frz_own (β := AV) o
      simp only [unc_cons, un0_nil, oneOf_one, ef]
      exact Goes.some ⟨fs, hy, hpre⟩
    obtain ⟨v, hv, es, hw, hd⟩ := hb
    have ec := callS_bare (E := vE) (args := [x0, v1, .nils]) st K rfl (by simp only [List.map_cons, List.map_nil, hx.strip, ht.strip]; rfl) (by simp only [bares_cons, hx.bare, ht.bare]; rfl) hv
    exact Goes.step ec (g v st es q0 (.inl hw) hd (Keeps.refl _ _) hro (.inr rfl))
  · refine Goes.callW (renamed_ok hN hl hx ht (.inr ⟨k, rfl, hg⟩) hlen hro hn) rfl ?_ ?_
    · simp only [List.map_cons, List.map_nil, hx.strip, ht.strip, bares_cons, hx.bare, ht.bare]; rfl
    · rintro v s ⟨v', s', es, e, o, hd, k2⟩
      cases e
      exact g v s es _ o.isW hd k2 o.1 (.inl rfl)
end Go.Proofs.YtoopmjhdgkcleaaGreatDoor.Vm
/- The law ScopeRenamed. -/
set_option maxRecDepth 100000
set_option linter.unusedSimpArgs false
set_option maxHeartbeats 1000000
namespace Go.Proofs.YtoopmjhdgkcleaaGreatDoor.Vm
open Go Go.VM Go.Proofs Go.Scope

/-- A name is appended. -/
theorem nm_app {st : St} {nv : AV} {nms : List Tx} (h : Nm st nv nms) (hro : st.ro = 0) (x : Tx) (hl : nms.length ≤ 100000000) :
    ∃ nv' st' fx, Nm st' nv' (nms ++ [x]) ∧ st'.ro = 0 ∧ (∀ j t cs, st.get j = .ok (.cells t cs) → st'.get j = .ok (.cells t cs)) ∧ st.h ≤ st'.h ∧
      ∀ {β : Type} (K : Kv β), planS (orc vE) (rowAppendP (TI.mk U.str 1 16 [AV.str []] false false) 9 nv [.str x]) st K = K nv' st' fx := by
  have hroom : ∀ n, n ≤ 100000001 → roomOk n (TI.mk U.str 1 16 [AV.str []] false false) = true := fun n hn => by
    have : ∀ n, roomOk n (TI.mk U.str 1 16 [AV.str []] false false) = roomOk n ⟨.other, 1, 16, [], false, false⟩ := fun n => rfl
    rw [this]
    exact room_of (by omega) (by omega) (by omega)
  rcases h with ⟨rfl, rfl⟩ | ⟨k, rfl, hg⟩
  · refine ⟨.gs st.h 1 1, st.add (.row 1 9 1 [.str x]), ⟨[], .made st.h (.row 1 9 1 [.str x])⟩, .inr ⟨st.h, rfl, St.get_add_new⟩, hro, fun j t cs hj => St.get_add_old hj, Nat.le_succ _, fun K => ?_⟩
    have e : rowAppendP (TI.mk U.str 1 16 [AV.str []] false false) 9 .nils [.str x] = .ok (.new (.row 1 9 1 [.str x]) fun k => .gs k 1 1) := by
      have h1 := hroom 1 (by omega)
      have h0 : rowAppendP (TI.mk U.str 1 16 [AV.str []] false false) 9 .nils [.str x] = (match roomOk 1 (TI.mk U.str 1 16 [AV.str []] false false) with
        | true => .ok (.new (.row 1 9 1 [.str x]) fun k => .gs k 1 1) | false => .error "append: too long") := rfl
      rw [h0, h1]
    rw [e, planS_new]
  · have hne : k < st.h := (St.get_ok.1 hg).1
    refine ⟨.gs k 1 (nms.length + 1), st.put k (.row (nms.length + 1) 9 1 (nms.map AV.str ++ [.str x])), ⟨[k], .wrote k (.row (nms.length + 1) 9 1 (nms.map AV.str ++ [.str x]))⟩, .inr ⟨k, by rw [List.length_append]; rfl, ?_⟩, hro, fun j t cs hj => ?_, Nat.le_refl _, fun K => ?_⟩
    · rw [St.get_put_same hne, List.length_append, List.map_append]
      rfl
    · rw [St.get_put_ne (fun e => by subst e; rw [hg] at hj; cases hj)]
      exact hj
    · have h1 := hroom (nms.length + 1) (by omega)
      have h0 : rowAppendP (TI.mk U.str 1 16 [AV.str []] false false) 9 (.gs k 1 nms.length) [.str x] = (match roomOk (nms.length + 1) (TI.mk U.str 1 16 [AV.str []] false false) && true with
        | true => .ok (.obj k fun o => match o with
          | .row m e' z' cs => match nms.length.beq m && (Nat.beq e' 9 && z'.beq 1) with
            | true => .ok (.gs k 1 (nms.length + 1), some (.row (nms.length + 1) 9 1 (cs ++ [.str x])))
            | false => .error "append: not at the end"
          | _ => .error "append: no right to")
        | false => .error "append: too long") := rfl
      rw [h0, h1]
      have hb : st.ro.ble k = true := by rw [hro]; exact Nat.ble_eq_true_of_le (Nat.zero_le _)
      have hm : (nms.length.beq nms.length && (Nat.beq 9 9 && Nat.beq 1 1)) = true := by rw [Nat.beq_refl]; rfl
      simp only [Bool.and_true, planS, VM.outS, planO, hg, hm, wroteO, hb, bindO_ok]
/-- A name is written over. -/
theorem nm_set {st : St} {nv : AV} {nms : List Tx} (h : Nm st nv nms) (hro : st.ro = 0) (x : Tx) {i : Nat} (hi : i < nms.length) :
    ∃ av rd st' fx, (∀ {β : Type} (K : AV → List Nat → Option β), idxA 1 nv (i : Int) st K = K av rd) ∧ (∀ {β : Type} (K : Kv β), storeS (orc vE) 1 av (.str x) [.str x] st K = K VM.undef st' fx) ∧ Nm st' nv (nms.set i x) ∧ st'.ro = 0 ∧
      (∀ j t cs, st.get j = .ok (.cells t cs) → st'.get j = .ok (.cells t cs)) ∧ st.h ≤ st'.h := by
  rcases h with ⟨rfl, rfl⟩ | ⟨k, rfl, hg⟩
  · simp at hi
  · have hne : k < st.h := (St.get_ok.1 hg).1
    have hsp : splice (nms.map AV.str) (i * 1) [.str x] = (nms.set i x).map AV.str := by
      rw [Nat.mul_one]
      unfold splice
      rw [List.map_set, List.set_eq_take_append_cons_drop, if_pos (by simpa using hi)]
      simp
    refine ⟨.gp k nms.length (i * 1), [k], st.put k (.row nms.length 9 1 ((nms.set i x).map AV.str)), ⟨[k], .wrote k (.row nms.length 9 1 ((nms.set i x).map AV.str))⟩, fun K => ?_, fun K => ?_, .inr ⟨k, by rw [List.length_set], ?_⟩, hro, fun j t cs hj => ?_, Nat.le_refl _⟩
    · have h1 : insideO ((i : Nat) : Int) nms.length = some i := by
        show (match i.blt nms.length with | true => some i | false => none) = _
        rw [blt_true.2 hi]
      simp only [idxA, idxO, h1, hg, Nat.beq_refl]
      rfl
    · have hb : st.ro.ble k = true := by rw [hro]; exact Nat.ble_eq_true_of_le (Nat.zero_le _)
      have h0 : gpStoreP ⟨.other, 1, 0, [], false, false⟩ k nms.length (i * 1) (.str x) = .ok (.obj k fun o => match o with
        | .grow n e z es => match (n.beq nms.length && n.beq (es.length + 1)) && ((i * 1).beq (es.length * z) && z.beq 1) with
          | true => .ok (VM.undef, some (.grow n e z (es ++ [.str x])))
          | false => .error "store: not the last one"
        | o => rowStoreP nms.length (i * 1) [.str x] o) := rfl
      have hle : (i * 1 + [AV.str x].length).ble (nms.map AV.str).length = true := Nat.ble_eq_true_of_le (by simp; omega)
      simp only [storeS, VM.outS, storeO, h0, planO, hg, rowStoreP, Nat.beq_refl, hle, Bool.and_self, wroteO, hb, bindO_ok, hsp]
    · rw [St.get_put_same hne, List.length_set]
    · rw [St.get_put_ne (fun e => by subst e; rw [hg] at hj; cases hj)]
      exact hj
/-- The names while they are put back. -/
def mid (long : Nat) (bs : List (Tx × Sp)) (k i : Nat) : List Tx := (List.range bs.length).map fun j => if j < i ∧ j ≠ k then (bs[j]?.map (·.1)).getD [] else fresh long j
theorem mid_zero (long : Nat) (bs : List (Tx × Sp)) (k : Nat) : mid long bs k 0 = allFresh long bs.length := by
  unfold mid allFresh
  refine List.map_congr_left fun j _ => ?_
  rw [if_neg (by omega)]
theorem mid_all (long : Nat) (bs : List (Tx × Sp)) (k : Nat) : mid long bs k bs.length = oneFresh long bs k := by
  unfold mid oneFresh
  refine List.map_congr_left fun j hj => ?_
  have := List.mem_range.1 hj
  by_cases h : j = k
  · rw [if_neg (by omega), if_pos h]
  · rw [if_pos ⟨this, h⟩, if_neg h]
theorem mid_len (long : Nat) (bs : List (Tx × Sp)) (k i : Nat) : (mid long bs k i).length = bs.length := by simp [mid]
theorem mid_skip (long : Nat) (bs : List (Tx × Sp)) (k : Nat) : mid long bs k (k + 1) = mid long bs k k := by
  unfold mid
  refine List.map_congr_left fun j _ => ?_
  by_cases h : j < k
  · rw [if_pos (by omega), if_pos (by omega)]
  · rw [if_neg (by omega), if_neg (by omega)]
theorem mid_set {long : Nat} {bs : List (Tx × Sp)} {k i : Nat} {b : Tx × Sp} (hb : bs[i]? = some b) (hk : i ≠ k) : mid long bs k (i + 1) = (mid long bs k i).set i b.1 := by
  have hi := (List.getElem?_eq_some_iff.1 hb).1
  refine List.ext_getElem? fun j => ?_
  rw [List.getElem?_set, mid_len]
  unfold mid
  rw [List.getElem?_map, List.getElem?_map]
  by_cases hj : i = j
  · subst hj
    rw [if_pos rfl, if_pos hi, List.getElem?_range hi]
    simp only [Option.map_some]
    rw [if_pos ⟨Nat.lt_succ_self _, hk⟩, hb]
    rfl
  · rw [if_neg hj]
    rcases Nat.lt_or_ge j bs.length with hl | hl
    · rw [List.getElem?_range hl]
      simp only [Option.map_some]
      by_cases h : j < i ∧ j ≠ k
      · rw [if_pos h, if_pos ⟨by omega, h.2⟩]
      · rw [if_neg h, if_neg (by omega)]
    · rw [List.getElem?_eq_none_iff.2 (by simpa using hl)]
      rfl
theorem wrap_u (m : Int) : ∃ w : Nat, IntKind.wrap .u64 m = (w : Int) := by
  refine ⟨(IntKind.wrap .u64 m).toNat, ?_⟩
  have h : IntKind.wrap .u64 m = m % 18446744073709551616 := rfl
  rw [h]
  have := Int.emod_nonneg m (b := 18446744073709551616) (by omega)
  omega
theorem wrap_uN {n : Nat} (h : n ≤ 9223372036854775807) : IntKind.wrap .u64 (n : Int) = (n : Int) := by
  have h0 : IntKind.wrap .u64 (n : Int) = (n : Int) % 18446744073709551616 := rfl
  rw [h0]
  omega
theorem rf_tb {t : Tb} {yb yu yt : AV} (hb : IsSl 3 yb (encB t.bs)) (hu : IsSl 4 yu (encU t.us)) (ht : IsSl 1 yt (encN t.tw)) : ∀ c ∈ [yb, yu, yt], Rf 3 c := by
  intro c hc
  simp only [List.mem_cons, List.not_mem_nil, or_false] at hc
  rcases hc with rfl | rfl | rfl
  · refine rf_isSl hb fun c hc => ?_
    obtain ⟨b, _, rfl⟩ := List.mem_map.1 hc
    refine rf_agg fun c hc => ?_
    simp only [List.mem_cons, List.not_mem_nil, or_false] at hc
    rcases hc with rfl | rfl | rfl
    · exact rf_str _
    · exact rf_int _ _
    · exact rf_int _ _
  · refine rf_isSl hu fun c hc => ?_
    obtain ⟨b, _, rfl⟩ := List.mem_map.1 hc
    refine rf_agg fun c hc => ?_
    simp only [List.mem_cons, List.not_mem_nil, or_false] at hc
    rcases hc with rfl | rfl | rfl | rfl
    · exact rf_str _
    · exact rf_int _ _
    · exact rf_int _ _
    · exact rf_int _ _
  · refine (rf_isSl ht (d := 1) fun c hc => ?_).mono (by omega)
    obtain ⟨b, _, rfl⟩ := List.mem_map.1 hc
    exact rf_int _ _
end Go.Proofs.YtoopmjhdgkcleaaGreatDoor.Vm
/- The law ScopeRenamed, walked. -/
set_option maxRecDepth 100000
set_option linter.unusedSimpArgs false
set_option maxHeartbeats 1000000
namespace Go.Proofs.YtoopmjhdgkcleaaGreatDoor.Vm
open Go Go.VM Go.Proofs Go.Scope

theorem law_renamed (hw : (orc vE).bare 7 [] = some (.bool true)) {l : List Bd} {es : List AV} {x : AV} (hl : IsDs l es) (hx : IsSl 11 x es) (m1 : Int) (hnl : nDs l ≤ 4000000) :
    (orc vE).bare 6 [x, .int .i64 m1] = some (.bool true) := by
  refine Goes.eq (Goes.bare rfl (Goes.step (g6_eq _ _) ?_))
  have cw := fun {γ : Type} (st : St) (K : Kv γ) => callS_bare (E := vE) (args := []) st K rfl rfl rfl hw
  obtain ⟨v1, h1, b, rfl⟩ := large_ok hl hx
  simp only [g6, asI_int, cw, asB_bool, Bool.not_true, ifB_false, callP1 hx h1 rfl, bindO_ok, unc_cons, un0_nil]
  cases b with
  | true =>
    simp only [ifB_true, cw, asB_bool]
    exact Goes.some rfl
  | false =>
    have hsm : ∀ {q : List Bd}, nDs q ≤ 4000000 → Sm (ofS q) := fun {q} h => by
      have h1 := wt_of q
      unfold wt at h1
      exact ⟨by omega, by omega, by omega⟩
    obtain ⟨v2, h2, hv2⟩ := prog_of_ok hl hx (hsm hnl)
    obtain ⟨row, hG⟩ := good_of l
    have hrt : ∀ {nms : List Tx} {D : Prop}, Fit (ofS l) nms D → Rl nms D (ofS l) (ofS (renD (ofS l).us nms l 0 0)) := fun hF => ren_of hF
    have hS := hsm hnl
    have hSr : ∀ nms, Sm (ofS (renD (ofS l).us nms l 0 0)) := fun nms => hsm (by rw [nDs_ren]; exact hnl)
    generalize ofS l = t at *
    have q2 := hv2
    obtain ⟨yb, yu, yt, rfl, hb, hu, ht⟩ := q2
    have hbl := hS.bs
    have lb := fun {γ : Type} (K : Nat → Option γ) => hb.len K
    simp only [encB_len] at lb
    obtain ⟨s1, fx1, g1, k1, n1, e1⟩ := lvT S0 (v1 := yb) (v2 := yu) (v3 := yt) (Nat.le_refl _)
    obtain ⟨v3, h3, long, rfl, hL⟩ := longest_ok hv2
    simp only [ifB_false, callP1 hx h2 rfl, unA_agg, unc_cons, un0_nil, letSt_eq, hb.asOne, hu.asOne, ht.asOne, e1, loadS_mp g1, List.drop_zero, take3, bindO_ok, callT1 hv2 h3 rfl, asI_int, ifB_decide]
    by_cases hlg : (long : Int) > 5000
    · simp only [if_pos hlg]; exact Goes.some rfl
    simp only [if_neg hlg]
    refine Goes.bind (R := fun c => ∃ nv s, c = (0, [nv], s) ∧ Nm s nv (allFresh long t.bs.length) ∧ s.ro = 0 ∧ s.get S0.h = .ok (.cells 29 [yb, yu, yt]))
      (Goes.upto (n := t.bs.length) (I := fun i q => ∃ nv s, q = ([nv, .int .i64 (i : Int)], s) ∧ Nm s nv (allFresh long i) ∧ s.ro = 0 ∧ s.get S0.h = .ok (.cells 29 [yb, yu, yt])) ?_ ?_ t.bs.length 0 _ (by omega)
        ⟨.nils, s1, rfl, .inl ⟨rfl, rfl⟩, k1.ro, g1⟩) ?_
    · rintro i q hi ⟨nv, s, rfl, hn, hro, hg⟩
      have hlt : (i : Int) < (t.bs.length : Int) := by omega
      have c1 := fun {γ : Type} (st : St) (K : Kv γ) => callS_bare (E := vE) st K rfl rfl rfl (fresh_ok (long := long) (i := i) (by omega) (by omega))
      have hal : (allFresh long i).length = i := by simp [allFresh]
      obtain ⟨nv', s', fx, hn', hro', hk', _, e⟩ := nm_app hn hro (fresh long i) (by rw [hal]; omega)
      simp only [g6_L1, unc_cons, asI_int, un0_nil, loadS_mp hg, List.drop_zero, takeO_one, bindO_ok, lb, ifB_decide, if_pos hlt, c1, asS_str, e, letV_eq, wrapA1 (show i + 1 ≤ 9223372036854775807 by omega)]
      refine Goes.inl ?_
      refine ⟨nv', s', rfl, ?_, hro', hk' _ _ _ hg⟩
      have : allFresh long (i + 1) = allFresh long i ++ [fresh long i] := by
        unfold allFresh
        rw [List.range_succ, List.map_append]; rfl
      rw [this]; exact hn'
    · rintro q ⟨nv, s, rfl, hn, hro, hg⟩
      have hlt : ¬ (t.bs.length : Int) < (t.bs.length : Int) := by omega
      simp only [g6_L1, unc_cons, asI_int, un0_nil, loadS_mp hg, List.drop_zero, takeO_one, bindO_ok, lb, ifB_decide, if_neg hlt]
      refine Goes.inr ?_
      exact ⟨nv, s, rfl, hn, hro, hg⟩
    rintro c ⟨nv, s2, rfl, hnm, hro2, hg2⟩
    have hrl := hrt (fit_all hG hL)
    have hal : (allFresh long t.bs.length).length = t.bs.length := by simp [allFresh]
    simp only [unc_cons, un0_nil, loadS_mp hg2, List.drop_zero, take3, bindO_ok, unA_agg]
    refine callR (N := 4000000) (Nat.le_refl _) hl hx hv2 hnm (by rw [hal]; omega) (by rw [hro2]; exact Nat.zero_le _) hnl ?_
    rintro v4 s3 es3 fx3 ow hd k3 hro3 -
    obtain ⟨v5, h5, hv5⟩ := prog_of_ok hd ow.strip (hSr _)
    have q5 := hv5
    obtain ⟨tb, tu, tt, rfl, kb, ku, kt⟩ := q5
    obtain ⟨s4, fx4, g4, k4, n4, e4⟩ := lvT s3 (v1 := tb) (v2 := tu) (v3 := tt) hro3
    have g4a := k4.old _ _ (fun f => f) (k3.old _ _ (fun f => f) hg2)
    obtain ⟨v6, h6, rfl⟩ := means_same hv2 hv5 hrl.len hrl.us
    have lt0 : ∀ {γ : Type} (K : Nat → Option γ), lenS tt K = K 0 := fun K => by
      rw [kt.len, encN_len, hrl.tw trivial]; rfl
    have q0 : (((0 : Nat) : Int) != 0) = false := rfl
    simp only [callW1 ow h5 rfl, unA_agg, unc_cons, un0_nil, letSt_eq, kb.asOne, ku.asOne, kt.asOne, e4, loadS_mp g4, loadS_mp g4a, List.drop_succ_cons, List.drop_zero, take3, takeO_one, bindO_ok, callT2 hv2 hv5 h6 rfl, asB_bool, Bool.not_true, ifB_false, lt0, q0, lb]
    by_cases h0 : t.bs.length = 0
    · have hz : (((t.bs.length : Nat) : Int) == 0) = true := by rw [h0]; rfl
      simp only [hz, ifB_true]
      exact Goes.some rfl
    have hz : (((t.bs.length : Nat) : Int) == 0) = false := by rw [beq_eq_false_iff_ne]; omega
    obtain ⟨w, hwu⟩ := wrap_u m1
    have hdz : (!decide (((t.bs.length : Nat) : Int) = 0)) = true := by rw [decide_eq_false (by omega)]; rfl
    have hmod : Int.tmod (w : Int) (t.bs.length : Int) = ((w % t.bs.length : Nat) : Int) := (Int.ofNat_tmod _ _).symm
    have hkl : w % t.bs.length < t.bs.length := Nat.mod_lt _ (by omega)
    simp only [hz, ifB_false, letV_eq, hwu, wrap_uN (show t.bs.length ≤ 9223372036854775807 by omega), hdz, chk_true, hmod, wrapN (show w % t.bs.length ≤ 9223372036854775807 by omega)]
    generalize w % t.bs.length = k at hkl
    obtain ⟨v7, h7, es7, hs7, hno⟩ := uses_ok hv2 hS (k : Int)
    have c7 := fun {γ : Type} (st : St) (K : Kv γ) => callS_bare (E := vE) (args := [.agg [yb, yu, yt], .int .i64 (k : Int)]) st K rfl (by simp only [List.map_cons, List.map_nil, hv2.strip]; rfl) (by simp only [bares_cons, hv2.bare]; rfl) h7
    simp only [c7, hs7.len, ifB_decide]
    by_cases h8 : ((es7.length : Nat) : Int) > 0
    · simp only [if_pos h8]; exact Goes.some rfl
    simp only [if_neg h8]
    have hno := hno (List.eq_nil_of_length_eq_zero (by omega))
    have hnm4 := (hnm.keep k3 (fun _ _ _ _ _ _ f => f)).keep k4 (fun _ _ _ _ _ _ f => f)
    rw [← mid_zero long t.bs k] at hnm4
    refine Goes.bind (R := fun c => ∃ s, c = (0, [], s) ∧ Nm s nv (oneFresh long t.bs k) ∧ s.ro = 0 ∧ s.get S0.h = .ok (.cells 29 [yb, yu, yt]))
      (Goes.upto (n := t.bs.length) (I := fun i q => ∃ s, q = ([.int .i64 (i : Int)], s) ∧ Nm s nv (mid long t.bs k i) ∧ s.ro = 0 ∧ s.get S0.h = .ok (.cells 29 [yb, yu, yt])) ?_ ?_ t.bs.length 0 _ (by omega)
        ⟨s4, rfl, hnm4, by rw [k4.ro, k3.ro]; exact hro2, g4a⟩) ?_
    · rintro i q hi ⟨s, rfl, hn, hro, hg⟩
      have hlt : (i : Int) < (t.bs.length : Int) := by omega
      have hget : t.bs[i]? = some t.bs[i] := List.getElem?_eq_getElem hi
      have hi1 := fun {γ : Type} (s : St) (K : AV → List Nat → Option γ) => hb.idx (encB_get hget) s K
      simp only [g6_L2, unc_cons, asI_int, un0_nil, loadS_mp hg, List.drop_zero, takeO_one, bindO_ok, lb, ifB_decide, if_pos hlt]
      by_cases hik : i = k
      · have hne : (((i : Nat) : Int) != ((k : Nat) : Int)) = false := by rw [hik]; simp
        simp only [hne, ifB_false, bindO_ok, un0_nil, letV_eq, wrapA1 (show i + 1 ≤ 9223372036854775807 by omega)]
        refine Goes.inl ?_
        refine ⟨s, rfl, ?_, hro, hg⟩
        subst hik
        rw [mid_skip]; exact hn
      · have hne : (((i : Nat) : Int) != ((k : Nat) : Int)) = true := by
          rw [bne_iff_ne]; omega
        obtain ⟨av, rd, s', fx, a1, a2, hn', hro', hk', _⟩ := nm_set hn hro t.bs[i].1 (i := i) (by rw [mid_len]; exact hi)
        simp only [hne, ifB_true, hi1, AV.cells, fldA_ip, List.drop_zero, loadS_ip, takeO_one, bindO_ok, asS_str, a1, a2, un0_nil, letV_eq, wrapA1 (show i + 1 ≤ 9223372036854775807 by omega)]
        refine Goes.inl ?_
        refine ⟨s', rfl, ?_, hro', hk' _ _ _ hg⟩
        rw [mid_set hget hik]; exact hn'
    · rintro q ⟨s, rfl, hn, hro, hg⟩
      have hlt : ¬ (t.bs.length : Int) < (t.bs.length : Int) := by omega
      simp only [g6_L2, unc_cons, asI_int, un0_nil, loadS_mp hg, List.drop_zero, takeO_one, bindO_ok, lb, ifB_decide, if_neg hlt]
      refine Goes.inr ?_
      refine ⟨s, rfl, ?_, hro, hg⟩
      rw [← mid_all]; exact hn
    rintro c ⟨s5, rfl, hnm5, hro5, hg5⟩
    have hrl := hrt (fit_one hG hL hno)
    have hol : (oneFresh long t.bs k).length = t.bs.length := by simp [oneFresh]
    simp only [un0_nil, loadS_mp hg5, List.drop_zero, take3, bindO_ok, unA_agg, unc_cons]
    refine callR (N := 4000000) (Nat.le_refl _) hl hx hv2 hnm5 (by rw [hol]; omega) (by rw [hro5]; exact Nat.zero_le _) hnl ?_
    rintro v8 s6 es8 fx8 ow8 hd8 k8 hro8 hfx
    obtain ⟨v9, h9, hv9⟩ := prog_of_ok hd8 ow8.strip (hSr _)
    obtain ⟨v10, h10, rfl⟩ := means_same hv2 hv9 hrl.len hrl.us
    have q9 := hv9
    obtain ⟨zb, zu, zt, rfl, _⟩ := q9
    have hap : apart ⟨[S0.h], .kept⟩ fx8 = true := by
      rcases hfx with rfl | rfl
      · exact apart_all (sameAt_of (d := 3) hg5 (k8.old _ _ (fun f => f) hg5) (rf_tb hb hu ht) (by omega))
      · exact apart_kept _
    simp only [hap, Bool.and_self, chk_true, callW1 ow8 h9 rfl, unA_agg, unc_cons, un0_nil, apart_kept, callT2 hv2 hv9 h10 rfl, asB_bool]
    exact Goes.some rfl
end Go.Proofs.YtoopmjhdgkcleaaGreatDoor.Vm
/- The examples, run. -/
set_option maxRecDepth 1000000
set_option maxHeartbeats 0
namespace Go.Proofs.YtoopmjhdgkcleaaGreatDoor.Vm
open Go Go.VM Go.Proofs
theorem ran_works : (kcaller vE (fun f => (ktable vE vF).get f) 3000).bare 7 [] trueK = true := by kernel_rfl
theorem works_ok : (orc vE).bare 7 [] = some (.bool true) := orc_bare (ranTrue (fun _ => rfl) ran_works)
end Go.Proofs.YtoopmjhdgkcleaaGreatDoor.Vm
/- Declarations as arguments. -/
set_option maxRecDepth 100000
set_option linter.unusedSimpArgs false
namespace Go.Proofs.YtoopmjhdgkcleaaGreatDoor.Vm
open Go Go.VM Go.Proofs Go.Scope

def lawS : List TypeId := [9, 5, 3, 4, 32, 101, 60, 63, 61, 65, 22]
theorem lawS_ok : ∀ t, inS lawS t = true → okTy Tryz.prog lawS t = true := by
  intro t ht
  have : t ∈ lawS := by
    obtain ⟨u, hu, e⟩ := List.any_eq_true.1 ht
    rw [← Nat.eq_of_beq_eq_true e]; exact hu
  exact List.all_eq_true.1 (show (lawS.all fun t => okTy Tryz.prog lawS t) = true by kernel_rfl) t this
theorem av_str {n t : Nat} {cs : List AV} (hu : Tryz.prog.underlying t = some .string) (h : AvOf Tryz.prog n t cs) : ∃ s, cs = [.str s] ∧ s.length ≤ maxLen := by
  cases n with
  | zero => cases h
  | succ n => simp only [AvOf, hu] at h; exact h
theorem av_u8 {n t : Nat} {cs : List AV} (hu : Tryz.prog.underlying t = some (.int .u8)) (h : AvOf Tryz.prog n t cs) : ∃ m : Nat, cs = [.int .u8 (m : Int)] := by
  cases n with
  | zero => cases h
  | succ n =>
    simp only [AvOf, hu] at h
    obtain ⟨m, rfl, h1, h2⟩ := h
    have h1 : (0 : Int) ≤ m := h1
    exact ⟨m.toNat, by rw [Int.toNat_of_nonneg h1]⟩
theorem av_int {n t : Nat} {cs : List AV} (hu : Tryz.prog.underlying t = some (.int .i64)) (h : AvOf Tryz.prog n t cs) : ∃ m : Int, cs = [.int .i64 m] := by
  cases n with
  | zero => cases h
  | succ n =>
    simp only [AvOf, hu] at h
    obtain ⟨m, rfl, _⟩ := h
    exact ⟨m, rfl⟩
theorem av_bool {n t : Nat} {cs : List AV} (hu : Tryz.prog.underlying t = some .bool) (h : AvOf Tryz.prog n t cs) : ∃ b : Bool, cs = [.bool b] := by
  cases n with
  | zero => cases h
  | succ n =>
    simp only [AvOf, hu] at h
    exact h
theorem span_of {n : Nat} {cs : List AV} (h : AvOf Tryz.prog n 32 cs) : ∃ sp : Sp, cs = [.int .i64 sp.1, .int .i64 sp.2] := by
  cases n with
  | zero => cases h
  | succ n =>
    simp only [AvOf, Tryz.underlying32] at h
    obtain ⟨a0, b0, rfl, h0, a1, b1, rfl, h1, rfl⟩ := h
    obtain ⟨x, rfl⟩ := av_int Tryz.underlying3 h0
    obtain ⟨y, rfl⟩ := av_int Tryz.underlying3 h1
    exact ⟨(x, y), rfl⟩
/-- A slice as an argument. -/
theorem av_sl {n t e : Nat} {cs : List AV} (hu : Tryz.prog.underlying t = some (.slice e)) (h : AvOf Tryz.prog (n + 1) t cs) (hst : isSt Tryz.prog e = true) {z : Nat} (hz : Tryz.prog.cellsOf e = z) :
    ∃ (x : AV) (L : List (List AV)), cs = [x] ∧ IsSl z x (L.map .agg) ∧ (∀ a ∈ L, AvOf Tryz.prog n e a) ∧ bulkAs (L.map .agg) + 1 ≤ bulkAs cs := by
  simp only [AvOf, hu] at h
  rcases h with rfl | rfl | ⟨L, rfl, hl, hL⟩
  · exact ⟨_, [], rfl, IsSl.nils, (fun _ h => by cases h), by rw [bulkAs_cons, List.map_nil, bulkAs_nil]; simp only [bulkA]; omega⟩
  · exact ⟨_, [], rfl, IsSl.emp, (fun _ h => by cases h), by rw [bulkAs_cons, List.map_nil, bulkAs_nil]; simp only [bulkA]; omega⟩
  · rw [hst, hz]
    refine ⟨_, L, rfl, IsSl.wide (by rw [List.length_map]; simpa [maxLen] using hl), hL, ?_⟩
    rw [bulkAs_cons, bulkAs_nil, bulkA_sl]
    exact Nat.le_refl _
theorem bulk_mem {L : List (List AV)} {a : List AV} (h : a ∈ L) : bulkAs a ≤ bulkAs (L.map AV.agg) := by
  induction L with
  | nil => cases h
  | cons b L ih =>
    rw [List.map_cons, bulkAs_cons, bulkA_agg]
    rcases List.mem_cons.1 h with rfl | h
    · omega
    · have := ih h; omega
theorem pats_in : ∀ {L : List (List AV)}, (∀ a ∈ L, ∃ p, IsP p (.agg a) ∧ nP p ≤ bulkAs a) → ∃ ps, IsPs ps (L.map .agg) ∧ nPs ps ≤ bulkAs (L.map AV.agg)
  | [], _ => ⟨[], IsPs.nil, by simp only [nPs]; exact Nat.zero_le _⟩
  | a :: L, h => by
    obtain ⟨p, hp, hn⟩ := h a List.mem_cons_self
    obtain ⟨ps, hps, hm⟩ := pats_in (L := L) fun b hb => h b (List.mem_cons_of_mem _ hb)
    refine ⟨p :: ps, IsPs.cons hp hps, ?_⟩
    simp only [nPs, List.map_cons, bulkAs_cons, bulkA_agg]
    omega
theorem exprs_in : ∀ {L : List (List AV)}, (∀ a ∈ L, ∃ e, IsE e (.agg a) ∧ nE e ≤ bulkAs a) → ∃ l, IsEs l (L.map .agg) ∧ nEs l ≤ bulkAs (L.map AV.agg)
  | [], _ => ⟨[], IsEs.nil, by simp only [nEs]; exact Nat.zero_le _⟩
  | a :: L, h => by
    obtain ⟨p, hp, hn⟩ := h a List.mem_cons_self
    obtain ⟨ps, hps, hm⟩ := exprs_in (L := L) fun b hb => h b (List.mem_cons_of_mem _ hb)
    refine ⟨p :: ps, IsEs.cons hp hps, ?_⟩
    simp only [nEs, List.map_cons, bulkAs_cons, bulkA_agg]
    omega
theorem nPs_len : ∀ (ps : List Pat), ps.length ≤ nPs ps
  | [] => by simp
  | .mk k lit sp nm qs :: ps => by
    have := nPs_len ps
    simp only [List.length_cons, nPs, nP]
    omega
theorem pat_of : ∀ (n : Nat) {cs : List AV}, AvOf Tryz.prog n 101 cs → ∃ p, IsP p (.agg cs) ∧ nP p ≤ bulkAs cs := by
  intro n
  induction n using Nat.strongRecOn with
  | _ n ih =>
    intro cs h
    cases n with
    | zero => cases h
    | succ n =>
      simp only [AvOf, Tryz.underlying101] at h
      obtain ⟨a0, b0, rfl, h0, a1, b1, rfl, h1, a2, b2, rfl, h2, a3, b3, rfl, h3, a4, b4, rfl, h4, rfl⟩ := h
      obtain ⟨k, rfl⟩ := av_u8 Tryz.underlying5 h0
      obtain ⟨lit, rfl⟩ := av_u8 Tryz.underlying5 h1
      obtain ⟨sp, rfl⟩ := span_of h2
      obtain ⟨nm, rfl, _⟩ := av_str Tryz.underlying9 h3
      cases n with
      | zero => cases h4
      | succ n =>
        obtain ⟨x, L, rfl, hx, hL, hb⟩ := av_sl Tryz.underlying60 h4 (by kernel_rfl) (z := 6) (by kernel_rfl)
        obtain ⟨ps, hps, hn⟩ := pats_in (L := L) fun a ha => ih n (by omega) (hL a ha)
        refine ⟨.mk k lit sp nm ps, by simp only [IsP]; exact ⟨x, _, rfl, hx, hps⟩, ?_⟩
        simp only [nP, bulkAs_app, bulkAs_cons, bulkAs_nil, bulkA_int, bulkA_str] at hb ⊢
        omega
theorem expr_of : ∀ (n : Nat) {cs : List AV}, AvOf Tryz.prog n 63 cs → bulkAs cs ≤ 1048576 → ∃ e, IsE e (.agg cs) ∧ nE e ≤ bulkAs cs := by
  intro n
  induction n using Nat.strongRecOn with
  | _ n ih =>
    intro cs h hbk
    cases n with
    | zero => cases h
    | succ n =>
      simp only [AvOf, Tryz.underlying63] at h
      obtain ⟨a0, b0, rfl, h0, a1, b1, rfl, h1, a2, b2, rfl, h2, a3, b3, rfl, h3, a4, b4, rfl, h4, a5, b5, rfl, h5, rfl⟩ := h
      obtain ⟨k, rfl⟩ := av_u8 Tryz.underlying5 h0
      obtain ⟨sp, rfl⟩ := span_of h1
      obtain ⟨rc, rfl⟩ := av_bool Tryz.underlying4 h2
      obtain ⟨nm, rfl, _⟩ := av_str Tryz.underlying9 h3
      cases n with
      | zero => cases h4
      | succ n =>
        obtain ⟨x, L, rfl, hx, hL, hb⟩ := av_sl Tryz.underlying60 h4 (by kernel_rfl) (z := 6) (by kernel_rfl)
        obtain ⟨y, M, rfl, hy, hM, hc⟩ := av_sl Tryz.underlying61 h5 (by kernel_rfl) (z := 7) (by kernel_rfl)
        simp only [bulkAs_app, bulkAs_cons, bulkAs_nil, bulkA_int, bulkA_str, bulkA_bool] at hb hc hbk
        obtain ⟨ps, hps, hn⟩ := pats_in (L := L) fun a ha => pat_of n (hL a ha)
        obtain ⟨ls, hls, hm⟩ := exprs_in (L := M) fun a ha => ih n (by omega) (hM a ha) (by have := bulk_mem ha; omega)
        have hlen := nPs_len ps
        refine ⟨.mk k sp rc nm ps ls, by simp only [IsE]; exact ⟨x, _, y, _, rfl, hx, hps, hy, hls, by omega⟩, ?_⟩
        simp only [nE, bulkAs_app, bulkAs_cons, bulkAs_nil, bulkA_int, bulkA_str, bulkA_bool]
        omega
theorem bind_of {n : Nat} {cs : List AV} (h : AvOf Tryz.prog n 65 cs) (hbk : bulkAs cs ≤ 1048576) : ∃ d, IsD d (.agg cs) ∧ nPs d.ps + nE d.body ≤ bulkAs cs := by
  cases n with
  | zero => cases h
  | succ n =>
    simp only [AvOf, Tryz.underlying65] at h
    obtain ⟨a0, b0, rfl, h0, a1, b1, rfl, h1, a2, b2, rfl, h2, a3, b3, rfl, h3, rfl⟩ := h
    obtain ⟨sp, rfl⟩ := span_of h0
    obtain ⟨rc, rfl⟩ := av_bool Tryz.underlying4 h1
    cases n with
    | zero => cases h2
    | succ n =>
      obtain ⟨x, L, rfl, hx, hL, hb⟩ := av_sl Tryz.underlying60 h2 (by kernel_rfl) (z := 6) (by kernel_rfl)
      simp only [bulkAs_app, bulkAs_cons, bulkAs_nil, bulkA_int, bulkA_str, bulkA_bool] at hb hbk
      obtain ⟨ps, hps, hn⟩ := pats_in (L := L) fun a ha => pat_of n (hL a ha)
      obtain ⟨e, he, hm⟩ := expr_of _ h3 (by omega)
      refine ⟨⟨sp, rc, ps, e⟩, ⟨x, _, a3, by simp, hx, hps, he⟩, ?_⟩
      simp only [bulkAs_app, bulkAs_cons, bulkAs_nil, bulkA_int, bulkA_str, bulkA_bool]
      omega
theorem binds_in : ∀ {L : List (List AV)}, (∀ a ∈ L, ∃ d, IsD d (.agg a) ∧ nPs d.ps + nE d.body ≤ bulkAs a) → ∃ l, IsDs l (L.map .agg) ∧ nDs l ≤ bulkAs (L.map AV.agg)
  | [], _ => ⟨[], by simp only [IsDs, List.map_nil], by simp only [nDs]; exact Nat.zero_le _⟩
  | a :: L, h => by
    obtain ⟨p, hp, hn⟩ := h a List.mem_cons_self
    obtain ⟨ps, hps, hm⟩ := binds_in (L := L) fun b hb => h b (List.mem_cons_of_mem _ hb)
    refine ⟨p :: ps, by simp only [IsDs, List.map_cons]; exact ⟨_, _, rfl, hp, hps⟩, ?_⟩
    simp only [nDs, List.map_cons, bulkAs_cons, bulkA_agg]
    omega
theorem decls_of {n : Nat} {cs : List AV} (h : AvOf Tryz.prog n 22 cs) (hbk : bulkAs cs ≤ 1048576) : ∃ x l es, cs = [x] ∧ IsSl 11 x es ∧ IsDs l es ∧ nDs l ≤ bulkAs cs := by
  cases n with
  | zero => cases h
  | succ n =>
    obtain ⟨x, L, rfl, hx, hL, hb⟩ := av_sl Tryz.underlying22 h (by kernel_rfl) (z := 11) (by kernel_rfl)
    obtain ⟨l, hl, hn⟩ := binds_in (L := L) fun a ha => bind_of (hL a ha) (by have := bulk_mem ha; omega)
    exact ⟨x, l, _, rfl, hx, hl, by omega⟩
end Go.Proofs.YtoopmjhdgkcleaaGreatDoor.Vm
