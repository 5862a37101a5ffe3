/-
  (A part of the proof: R12.)
-/
import Derived.Test.YtdfofconhfhgdaaVmBJ
/- RopeNames: many; what the law's shallow form tells. -/
set_option maxRecDepth 100000
set_option linter.unusedSimpArgs false
set_option maxHeartbeats 1000000
namespace Go.Proofs.Ytdfofconhfhgdaa.Vm
open Go Go.VM Go.Proofs
open T

theorem bytesOf_of : ∀ (s : List UInt8), bytesOf (ofBytes s) = .ok s
  | [] => rfl
  | b :: l => by
    have ih := bytesOf_of l
    simp only [ofBytes, List.map_cons] at ih ⊢
    simp only [bytesOf, ih, ok_bind]
    simp [pure_eq]
theorem make_bytes {n : Nat} (h : n ≤ 1000000) : makeSliceP (Env.T vE) 70 (.int .i64 0) (.int .i64 (n : Int)) = .ok (.new (.tok 0 5) fun k => .sl 1 [] (.own k)) := by
  have e1 : ti (Env.T vE) 70 = .ok ⟨.slice 5, 1, 24, [.nils], false, false⟩ := rfl
  have e2 : ti (Env.T vE) 5 = .ok ⟨.int .u8, 1, 1, [.int .u8 0], false, false⟩ := rfl
  have c : (Nat.ble 0 n && Nat.ble (n * 1) 16777216 && Nat.ble (1 * n) 281474976710656 && Nat.ble n 9223372036854775807 && Nat.ble 1 1) = true := by
    rw [Nat.ble_eq_true_of_le (Nat.zero_le n), Nat.ble_eq_true_of_le (show n * 1 ≤ 16777216 by omega), Nat.ble_eq_true_of_le (show 1 * n ≤ 281474976710656 by omega), Nat.ble_eq_true_of_le (show n ≤ 9223372036854775807 by omega)]; rfl
  have h0 : makeSliceP (Env.T vE) 70 (.int .i64 0) (.int .i64 (n : Int)) = (do let it ← ti (Env.T vE) 70; match it.und, AV.int .i64 (Int.ofNat 0), AV.int .i64 (Int.ofNat n) with
    | .slice e, .int _ (.ofNat l), .int _ (.ofNat c) => do
      let i ← ti (Env.T vE) e
      match l.ble c && (c * i.size).ble 16777216 && (i.bytes * c).ble 281474976710656 && c.ble 9223372036854775807 && Nat.ble 1 i.size with
      | true => match l.beq 0 with
        | true => pure (Plan.new (.tok 0 e) fun k => .sl i.size [] (.own k))
        | false => pure (Plan.new (.cells e (zeros i.zero c)) fun k => .ms k 0 i.size l c)
      | false => .error "make: size"
    | _, _, _ => .error "make: what?" : Res Plan) := rfl
  rw [h0]
  simp only [e1, e2, ok_bind, c]
  rfl
theorem conv_bytes (s : List UInt8) (p : Perm) : convertP (Env.T vE) 70 9 (.sl 1 (ofBytes s) p) = .ok (.val (.str s)) := by
  have e1 : ti (Env.T vE) 70 = .ok ⟨.slice 5, 1, 24, [.nils], false, false⟩ := rfl
  have e2 : ti (Env.T vE) 9 = .ok ⟨.str, 1, 16, [.str []], false, false⟩ := rfl
  have e3 : ti (Env.T vE) 5 = .ok ⟨.int .u8, 1, 1, [.int .u8 0], false, false⟩ := rfl
  simp only [convertP, e1, e2, e3, ok_bind, isByte, bytesOf_of, pure_eq]
theorem many_loop (n : Nat) (c : UInt8) (hn : n ≤ 1000000) : ∀ (k i : Nat) (v : AV) (st : St), i + k = n → Own st 1 5 v (ofBytes (List.replicate i c)) →
    ∃ v' st', loopO (g18_L1 (n : Int) [c]) ([v, .int .i64 (i : Int)], st) = some (0, [v'], st') ∧ Own st' 1 5 v' (ofBytes (List.replicate n c))
  | 0, i, v, st, hi, h => by
    have q : ¬ (i : Int) < (n : Int) := by omega
    have : i = n := by omega
    subst this
    refine ⟨v, st, loopO_inr ?_, h⟩
    simp only [g18_L1, unc_cons, asI_int, un0_nil, ifB_decide, if_neg q]
  | k + 1, i, v, st, hi, h => by
    have q : (i : Int) < (n : Int) := by omega
    have w1 : IntKind.wrap .i64 ((i : Int) + 1) = ((i + 1 : Nat) : Int) := by rw [← wrapN (n := i + 1) (by omega)]; rfl
    have hl : (ofBytes (List.replicate i c)).length = i := by rw [ofBytes_length, List.length_replicate]
    obtain ⟨v2, s2, o2, k2, x2, a2⟩ := own_app (b := 1) (.int .u8 (c.toNat : Int)) h (by
      rw [hl]
      simp only [roomOk, Nat.ble_eq_true_of_le (show (i + 1) * 1 ≤ 70368744177664 by omega), Nat.ble_eq_true_of_le (show i + 1 ≤ 70368744177664 by omega)]; rfl)
    have e : ofBytes (List.replicate i c) ++ [AV.int .u8 (c.toNat : Int)] = ofBytes (List.replicate (i + 1) c) := by
      rw [List.replicate_succ', ofBytes_append]; rfl
    rw [e] at o2
    obtain ⟨v', st', e', o'⟩ := many_loop n c hn k (i + 1) v2 s2 (by omega) o2
    refine ⟨v', st', ?_, o'⟩
    have a2 : ∀ {β : Type} (K : Kv β), appS 1 1 5 v (ofBytes [c]) st K = K v2 s2 x2 := fun K => a2 K
    rw [loopO_inl (s' := ([v2, .int .i64 ((i + 1 : Nat) : Int)], s2)), e']
    simp only [g18_L1, unc_cons, asI_int, un0_nil, ifB_decide, if_pos q, fitTs_bytes, sizes_bytes, chk_true, a2, letV_eq, w1]
theorem many_ok {n : Nat} (c : UInt8) (h1 : 1 ≤ n) (hn : n ≤ 1000000) : (orc vE).bare 18 [.int .i64 (n : Int), .str [c]] = some (.str (List.replicate n c)) := by
  refine bare_of rfl ((g18_eq _ _).trans ?_)
  have w1 : IntKind.wrap .i64 ((n : Int) * (([c].length : Nat) : Int)) = (n : Int) := by
    rw [show (n : Int) * (([c].length : Nat) : Int) = (n : Int) by simp]; exact wrapN (by omega)
  obtain ⟨v', st', e, o⟩ := many_loop n c hn n 0 (.sl 1 [] (.own 0)) (St.add (St.mk 0 0 Tr.leaf) (.tok 0 5)) (by omega) ⟨by simp [St.add_ro, St.add_h], Nat.zero_le _, .inr (.inr ⟨0, rfl, rfl, Nat.le_refl _⟩)⟩
  have e : loopO (g18_L1 (n : Int) [c]) ([.sl 1 [] (.own 0), .int .i64 0], St.add (St.mk 0 0 Tr.leaf) (.tok 0 5)) = _ := e
  have pm : ∀ {β : Type} (K : Kv β), planS (orc vE) (makeSliceP (Env.T vE) 70 (.int .i64 0) (.int .i64 (n : Int))) (St.mk 0 0 Tr.leaf) K = K (.sl 1 [] (.own 0)) (St.add (St.mk 0 0 Tr.leaf) (.tok 0 5)) ⟨[], .made 0 (.tok 0 5)⟩ := fun K => by
    rw [make_bytes hn]; rfl
  have hne : ofBytes (List.replicate n c) ≠ [] := by
    intro h
    have := congrArg List.length h
    rw [ofBytes_length, List.length_replicate] at this
    simp at this; omega
  obtain ⟨p, rfl⟩ : ∃ p, v' = .sl 1 (ofBytes (List.replicate n c)) p := by
    rcases o.2.2 with ⟨_, h⟩ | h | ⟨k, h, _⟩
    · exact absurd h hne
    · exact ⟨_, h⟩
    · exact ⟨_, h⟩
  have pc : ∀ {β : Type} (st : St) (K : Kv β), planS (orc vE) (convertP (Env.T vE) 70 9 (.sl 1 (ofBytes (List.replicate n c)) p)) st K = K (.str (List.replicate n c)) st q0 := fun st K => by
    rw [conv_bytes]; rfl
  simp only [g18, asI_int, asS_str, letV_eq, w1, pm]
  rw [e]
  simp only [bindO_ok, unc_cons, un0_nil, pc, asS_str, letV_eq]
theorem call_many {β : Type} {n : Nat} (c : UInt8) (h1 : 1 ≤ n) (hn : n ≤ 1000000) (st : St) (K : Kv β) : callS (orc vE) 18 [.int .i64 (n : Int), .str [c]] st K = K (.str (List.replicate n c)) st q0 := callS_bare st K rfl rfl rfl (many_ok c h1 hn)
theorem depth_le {t : T} (w : WF t) {k n : Nat} (hs : t.size ≤ n) (hk : 2 * n < 2 ^ (k + 1)) : t.depth ≤ 2 * k := by
  cases hn : t.isNil with
  | true => rw [nil_of hn]; simp [T.depth]
  | false =>
    have h := size_depth w hn
    rcases Nat.lt_or_ge k ((t.depth + 1) / 2) with h2 | h2
    · have := Nat.pow_le_pow_right (n := 2) (by omega) (show k + 1 ≤ (t.depth + 1) / 2 from h2)
      omega
    · omega
/-- Letters and ends, in turns. -/
def alt : Nat → List UInt8
  | 0 => []
  | n + 1 => alt n ++ [if n % 2 = 0 then 97 else 10]
theorem alt_len : ∀ n, (alt n).length = n
  | 0 => rfl
  | n + 1 => by rw [alt, List.length_append, alt_len n]; rfl
theorem alt_cut (n : Nat) : List.drop (n % 2) (List.take (n % 2 + 1) [97, 10]) = [if n % 2 = 0 then (97 : UInt8) else 10] := by
  have h : n % 2 = 0 ∨ n % 2 = 1 := by omega
  rcases h with h | h <;> rw [h] <;> rfl
theorem tmod2 (n : Nat) : Int.tmod (n : Int) 2 = ((n % 2 : Nat) : Int) := rfl
theorem put_end (s r : List UInt8) : putT s (s.length : Int) (s.length : Int) r = s ++ r := by
  simp [putT]
theorem put_begin (s r : List UInt8) : putT s 0 0 r = r ++ s := by simp [putT]
theorem grow_loop (st : St) : ∀ (k i : Nat) (x y : T), i + k = 1500 → WF x → WF y → x.text = alt i → y.text.length = i →
    ∃ x', loopO g5_L1 ([rp x, rp y, .bool false, .int .i64 (i : Int)], st) = some (0, [rp x', .bool false], st) ∧ WF x' ∧ x'.text = alt 1500
  | 0, i, x, y, hi, wx, wy, tx, ty => by
    have q : ¬ (i : Int) < 1500 := by omega
    have : i = 1500 := by omega
    subst this
    refine ⟨x, loopO_inr ?_, wx, tx⟩
    simp only [g5_L1, unc_cons, asB_bool, asI_int, un0_nil, ifB_decide, if_neg q]
  | k + 1, i, x, y, hi, wx, wy, tx, ty => by
    have q : (i : Int) < 1500 := by omega
    have sx : x.size = i := by rw [← size_text, tx, alt_len]
    have sy : y.size = i := by rw [← size_text, ty]
    have w1 : IntKind.wrap .i64 ((i : Int) + 1) = ((i + 1 : Nat) : Int) := by rw [← wrapN (n := i + 1) (by omega)]; rfl
    have w2 : IntKind.wrap .i64 (((i % 2 : Nat) : Int) + 1) = ((i % 2 + 1 : Nat) : Int) := by rw [← wrapN (n := i % 2 + 1) (by omega)]; rfl
    obtain ⟨u, eu, wu, tu, su⟩ := replace_yes (s := [if i % 2 = 0 then (97 : UInt8) else 10]) wx (by omega) (isS_of (i := i) (j := i) (Nat.le_refl _) (by omega)) (roomT_of (by rw [sx]; simp; omega))
    obtain ⟨v, ev, wv, tv, sv⟩ := replace_yes (s := [98]) wy (by omega) (isS_of (i := 0) (j := 0) (Nat.le_refl _) (by omega)) (roomT_of (by rw [sy]; simp; omega))
    have tu' : u.text = alt (i + 1) := by
      rw [tu, tx]
      have := put_end (alt i) [if i % 2 = 0 then (97 : UInt8) else 10]
      rw [alt_len] at this
      rw [this, alt]
    have tv' : v.text.length = i + 1 := by
      rw [tv]
      have := put_begin y.text [98]
      have e : putT y.text ((0 : Nat) : Int) ((0 : Nat) : Int) [98] = [98] ++ y.text := this
      rw [e, List.length_append, ty]; simp; omega
    have su' : u.size = i + 1 := by rw [← size_text, tu', alt_len]
    have sv' : v.size = i + 1 := by rw [← size_text, tv']
    have du := depth_le wu (k := 11) (n := 1500) (by omega) (by omega)
    have dv := depth_le wv (k := 11) (n := 1500) (by omega) (by omega)
    have q1 : ¬ (u.depth : Int) > 24 := by omega
    have q2 : ¬ (v.depth : Int) > 24 := by omega
    have ev : (orc vE).bare 9 [rp y, spV 0 0, .str [98]] = _ := ev
    obtain ⟨x', e', wx', tx'⟩ := grow_loop st k (i + 1) u v (by omega) wu wv tu' tv'
    refine ⟨x', ?_, wx', tx'⟩
    rw [loopO_inl (s' := ([rp u, rp v, .bool false, .int .i64 ((i + 1 : Nat) : Int)], st)), e']
    simp only [g5_L1, unc_cons, asB_bool, asI_int, un0_nil, ifB_decide, if_pos q, call_sp, unA_agg, apart_kept, apart_kept2, Bool.and_self, chk_true, letV_eq, tmod2, w2, uptoS_nat (show i % 2 + 1 ≤ 2 by omega), uptoS_nat (show i % 2 ≤ i % 2 + 1 by omega), alt_cut, call_rep eu, unT_tup, nthS_zero, nthS_one, call_rep ev, ifB_bne, if_true, call_depth, if_neg q1, decide_eq_false q2, bindO_ok, ifB_false, w1]
theorem part_loop (st : St) (l : List UInt8) (hl : l.length = 120) : ∀ (k i : Nat) (z : T), i + k = 500 → WF z → z.size = 120 * i →
    loopO (g5_L2 l) ([rp z, .bool false, .int .i64 (i : Int)], st) = some (0, [.bool false], st)
  | 0, i, z, hi, wz, sz => by
    have q : ¬ (i : Int) < 500 := by omega
    refine loopO_inr ?_
    simp only [g5_L2, unc_cons, asB_bool, asI_int, un0_nil, ifB_decide, if_neg q]
  | k + 1, i, z, hi, wz, sz => by
    have q : (i : Int) < 500 := by omega
    have w1 : IntKind.wrap .i64 ((i : Int) + 1) = ((i + 1 : Nat) : Int) := by rw [← wrapN (n := i + 1) (by omega)]; rfl
    have w2 : IntKind.wrap .i64 (120 * (i : Int)) = ((120 * i : Nat) : Int) := by rw [← wrapN (n := 120 * i) (by omega)]; congr 1
    obtain ⟨u, eu, wu, tu, su⟩ := replace_yes (s := l) wz (by omega) (isS_of (i := 120 * i) (j := 120 * i) (Nat.le_refl _) (by omega)) (roomT_of (by rw [sz, hl]; omega))
    have su' : u.size = 120 * (i + 1) := by
      rw [← size_text, tu]
      have := put_end z.text l
      rw [size_text, sz] at this
      rw [this, List.length_append, size_text, sz, hl]; omega
    have du := depth_le wu (k := 16) (n := 60000) (by omega) (by omega)
    have q1 : ¬ (u.depth : Int) > 34 := by omega
    rw [loopO_inl (s' := ([rp u, .bool false, .int .i64 ((i + 1 : Nat) : Int)], st)), part_loop st l hl k (i + 1) u (by omega) wu su']
    simp only [g5_L2, unc_cons, asB_bool, asI_int, un0_nil, ifB_decide, if_pos q, letV_eq, w2, call_sp, unA_agg, call_rep eu, unT_tup, nthS_zero, nthS_one, ifB_bne, if_true, call_depth, decide_eq_false q1, bindO_ok, ifB_false, w1]
theorem alt_count : ∀ n, (alt n).count 10 = n / 2
  | 0 => rfl
  | n + 1 => by
    rw [alt, List.count_append, alt_count n]
    have h : n % 2 = 0 ∨ n % 2 = 1 := by omega
    rcases h with h | h
    · rw [if_pos h, show [(97 : UInt8)].count 10 = 0 from rfl]; omega
    · rw [if_neg (by omega), show [(10 : UInt8)].count 10 = 1 from rfl]; omega
theorem alt_lines : ∀ (n k : Nat), 1 ≤ k → 2 * k ≤ n → lineP (alt n) k = some (2 * k)
  | 0, k, h1, h2 => by omega
  | n + 1, k, h1, h2 => by
    rw [alt, lineP_app _ _ _ h1, alt_count, alt_len]
    by_cases c : k ≤ n / 2
    · rw [if_pos c, alt_lines n k h1 (by omega)]
    · rw [if_neg c, if_neg (show ¬ n % 2 = 0 by omega), show k - n / 2 = 1 by omega]
      show some (1 + n) = _
      congr 1; omega
theorem alt_ends : (alt 1500).count 10 = 750 := alt_count 1500
theorem alt_line : lineP (alt 1500) 700 = some 1400 := alt_lines 1500 700 (by omega) (by omega)
theorem line_at {s : List UInt8} {n p : Nat} (h1 : 1 ≤ n) (h : lineP s n = some p) : lineR s (n : Int) = ((p : Int), 0) := by
  unfold lineR
  rw [if_neg (by omega), if_neg (by omega), Int.toNat_natCast, h]
theorem line700 : lineR (alt 1500) 700 = (1400, 0) := line_at (n := 700) (by omega) alt_line
theorem law_names : (orc vE).bare 5 [] = some (.bool true) := by
  refine bare_of rfl (g5_eq.trans ?_)
  have m1 := fun {β : Type} (st : St) (K : Kv β) => call_many (n := 65536) 120 (by omega) (by omega) st K
  have m2 := fun {β : Type} (st : St) (K : Kv β) => call_many (n := 65537) 120 (by omega) (by omega) st K
  have m3 := fun {β : Type} (st : St) (K : Kv β) => call_many (n := 65537) 121 (by omega) (by omega) st K
  have m4 := fun {β : Type} (st : St) (K : Kv β) => call_many (n := 119) 112 (by omega) (by omega) st K
  have m1 : ∀ {β : Type} (st : St) (K : Kv β), callS (orc vE) 18 [.int .i64 65536, .str [120]] st K = K (.str (List.replicate 65536 120)) st q0 := m1
  have m2 : ∀ {β : Type} (st : St) (K : Kv β), callS (orc vE) 18 [.int .i64 65537, .str [120]] st K = K (.str (List.replicate 65537 120)) st q0 := m2
  have m3 : ∀ {β : Type} (st : St) (K : Kv β), callS (orc vE) 18 [.int .i64 65537, .str [121]] st K = K (.str (List.replicate 65537 121)) st q0 := m3
  have m4 : ∀ {β : Type} (st : St) (K : Kv β), callS (orc vE) 18 [.int .i64 119, .str [112]] st K = K (.str (List.replicate 119 112)) st q0 := m4
  have l1 : (List.replicate 65536 (120 : UInt8)).length = 65536 := List.length_replicate
  have l2 : (List.replicate 65537 (120 : UInt8)).length = 65537 := List.length_replicate
  have l3 : (List.replicate 65537 (121 : UInt8)).length = 65537 := List.length_replicate
  have l4 : (List.replicate 119 (112 : UInt8) ++ [10]).length = 120 := by rw [List.length_append, List.length_replicate]; rfl
  generalize List.replicate 65536 (120 : UInt8) = s1 at m1 l1
  generalize List.replicate 65537 (120 : UInt8) = s2 at m2 l2
  generalize List.replicate 65537 (121 : UInt8) = s3 at m3 l3
  have l4' : Nat.ble ((List.replicate 119 (112 : UInt8)).length + 1) 9223372036854775807 = true := by rw [List.length_replicate]; rfl
  generalize List.replicate 119 (112 : UInt8) = s4 at m4 l4 l4'
  obtain ⟨t, et, wt, tt⟩ := rof_ok (s := s1) (by omega)
  have sz : t.size = 65536 := by rw [← size_text, tt, l1]
  have c1 : ∀ {β : Type} (st : St) (K : Kv β), callS (orc vE) 8 [.str s1] st K = K (.tup [rp t, .int .i64 0]) st q0 := fun st K => callS_bare st K rfl rfl rfl et
  have c2 : ∀ {β : Type} (st : St) (K : Kv β), callS (orc vE) 8 [.str s2] st K = K (.tup [.nilp, .int .i64 40]) st q0 := fun st K => callS_bare st K rfl rfl rfl (of_large (by omega))
  have e3 : (orc vE).bare 9 [rp t, spV 0 0, .str [121]] = _ := replace_large (s := [121]) (x := 0) (y := 0) (by omega) (by rw [sz]; rfl) (by rw [sz]; rfl)
  obtain ⟨d, ed, wd, td, sd⟩ := replace_yes (s := [121]) (x := 0) (y := 1) wt (by omega) (by rw [sz]; rfl) (by rw [sz]; rfl)
  have sd : d.size = 65536 := by
    rw [← size_text, td, tt]
    have := put_len (s := s1) (r := [121]) (i := 0) (j := 1) (by omega) (by omega)
    have e : (putT s1 0 1 [121]).length = s1.length - (1 - 0) + [(121 : UInt8)].length := this
    rw [e, l1]; rfl
  have e5 : (orc vE).bare 9 [rp t, spV 1 2, .str s3] = _ := replace_large (s := s3) (x := 1) (y := 2) (by omega) (by rw [sz]; rfl) (by rw [sz, l3]; rfl)
  obtain ⟨g, eg, wg, tg, sg⟩ := replace_yes (s := []) (x := 0) (y := 65536) wt (by omega) (by rw [sz]; rfl) (by rw [sz]; rfl)
  have sg : g.size = 0 := by
    rw [← size_text, tg, tt]
    have := put_len (s := s1) (r := []) (i := 0) (j := 65536) (by omega) (by omega)
    have e : (putT s1 0 65536 []).length = s1.length - (65536 - 0) + ([] : List UInt8).length := this
    rw [e, l1]; rfl
  have hg : g = .nil := by
    cases hn : g.isNil with
    | true => exact nil_of hn
    | false => have := size_pos wg hn; omega
  subst hg
  have e7 : (orc vE).bare 9 [rp t, spV 0 65537, .str []] = _ := replace_no [] (by rw [sz]; rfl)
  have e8 : (orc vE).bare 9 [rp t, spV (-1) 0, .str []] = _ := replace_no [] (by rw [sz]; rfl)
  have ah : ∀ (n a b : Int), aheadR [] n = (a, b) → ∀ {β : Type} (st : St) (K : Kv β), callS (orc vE) 17 [rp .nil, .int .i64 n] st K = K (.tup [.int .i64 a, .int .i64 b]) st q0 := fun n a b h => by
    have h1 := ahead_ok (t := .nil) trivial (by simp [T.size]) n
    have h2 : aheadR (T.nil).text n = (a, b) := h
    rw [h2] at h1
    intro β st K
    exact callS_bare st K rfl rfl rfl h1
  have ln : ∀ (t : T) (n a b : Int), WF t → t.size ≤ 1000000 → lineR t.text n = (a, b) → ∀ {β : Type} (st : St) (K : Kv β), callS (orc vE) 16 [rp t, .int .i64 n] st K = K (.tup [.int .i64 a, .int .i64 b]) st q0 := fun t n a b w hs h => by
    have h1 := line_ok w hs n
    rw [h] at h1
    intro β st K
    exact callS_bare st K rfl rfl rfl h1
  have a1 := fun {β : Type} (st : St) (K : Kv β) => ah (-1) 0 1 rfl st K
  have a2 := fun {β : Type} (st : St) (K : Kv β) => ah 0 0 0 rfl st K
  have b1 := fun {β : Type} (st : St) (K : Kv β) => ln .nil 0 0 0 trivial (by simp [T.size]) rfl st K
  have b2 := fun {β : Type} (st : St) (K : Kv β) => ln .nil (-1) 0 1 trivial (by simp [T.size]) rfl st K
  have dt := depth_le wt (k := 17) (n := 65536) (by omega) (by omega)
  have q1 : ¬ (t.depth : Int) > 36 := by omega
  have ld : ∀ {β : Type} (st : St) (K : Kv β), callS (orc vE) 19 [rp d] st K = K (.int .i64 65536) st q0 := fun st K => by rw [call_len, sd]; rfl
  have lg : ∀ {β : Type} (st : St) (K : Kv β), callS (orc vE) 19 [rp .nil] st K = K (.int .i64 0) st q0 := fun st K => by rw [call_len]; rfl
  have dg : ∀ {β : Type} (st : St) (K : Kv β), callS (orc vE) 20 [rp .nil] st K = K (.int .i64 0) st q0 := fun st K => by rw [call_depth]; rfl
  obtain ⟨x, ex, wx, tx'⟩ := grow_loop (St.mk 0 0 Tr.leaf) 1500 0 .nil .nil (by omega) trivial trivial rfl rfl
  have ex : loopO g5_L1 ([rp .nil, rp .nil, .bool false, .int .i64 0], St.mk 0 0 Tr.leaf) = _ := ex
  have ep : loopO (g5_L2 (s4 ++ [10])) ([rp .nil, .bool false, .int .i64 0], St.mk 0 0 Tr.leaf) = _ := part_loop (St.mk 0 0 Tr.leaf) (s4 ++ [10]) l4 500 0 .nil (by omega) trivial rfl
  have sx : x.size = 1500 := by rw [← size_text, tx', alt_len]
  have lx : lineR x.text 700 = (1400, 0) := by
    rw [tx']; exact line700
  have b3 := fun {β : Type} (st : St) (K : Kv β) => ln x 700 1400 0 wx (by omega) lx st K
  have nx : ∀ {β : Type} (st : St) (K : Kv β), callS (orc vE) 15 [rp x] st K = K (.int .i64 750) st q0 := fun st K => by
    rw [call_ends, ← ends_text, tx', alt_ends]; rfl
  have z1 : ∀ {β : Type} (st : St) (K : Kv β), callS (orc vE) 12 [.nilp, .agg [.int .i64 0, .int .i64 0]] st K = K (.tup [.str [], .int .i64 2]) st q0 := fun st K => callS_bare st K rfl rfl rfl (slice_nil 0 0)
  have z2 : ∀ {β : Type} (st : St) (K : Kv β), callS (orc vE) 9 [.nilp, .agg [.int .i64 0, .int .i64 0], .str []] st K = K (.tup [.nilp, .int .i64 2]) st q0 := fun st K => callS_bare st K rfl rfl rfl (replace_nil 0 0 [])
  have z3 : ∀ {β : Type} (st : St) (K : Kv β), callS (orc vE) 16 [.nilp, .int .i64 0] st K = K (.tup [.int .i64 0, .int .i64 2]) st q0 := fun st K => callS_bare st K rfl rfl rfl (line_nil 0)
  have z4 : ∀ {β : Type} (st : St) (K : Kv β), callS (orc vE) 17 [.nilp, .int .i64 0] st K = K (.tup [.int .i64 0, .int .i64 2]) st q0 := fun st K => callS_bare st K rfl rfl rfl (ahead_nil 0)
  have z5 := fun {β : Type} (st : St) (K : Kv β) => call_nil st K rfl len_nil
  have z6 := fun {β : Type} (st : St) (K : Kv β) => call_nil st K rfl ends_nil
  have z7 := fun {β : Type} (st : St) (K : Kv β) => call_nil st K rfl depth_nil
  have z8 := fun {β : Type} (st : St) (K : Kv β) => call_nil st K rfl string_nil
  simp only [g5, call_works, asB_bool, Bool.not_true, ifB_false, m1, asS_str, c1, unT_tup, nthS_zero, nthS_one, asI_int, m2, c2, call_sp, unA_agg, unc_cons, un0_nil, call_rep e3, call_rep ed, m3, call_rep e5, call_rep eg, call_rep e7, call_rep e8, a1, a2, b1, b2, ifB_bne, if_true, ld, lg, dg, call_depth, decide_eq_false q1, bindO_ok]
  rw [ex]
  simp only [bindO_ok, unc_cons, asB_bool, un0_nil, sel2_zero, m4, asS_str, l4', chk_true, letV_eq]
  rw [ep]
  simp only [bindO_ok, unc_cons, asB_bool, un0_nil, sel2_zero, b3, unT_tup, nthS_zero, nthS_one, asI_int, call_sp, unA_agg, z1, asS_str, z2, z3, z4, nx, ifB_beq, if_true, z5, z6, z7, z8, letV_eq]
  rfl
end Go.Proofs.Ytdfofconhfhgdaa.Vm
