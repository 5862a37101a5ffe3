/-
  (A part of the proof: LexD, TokEq, ParseA, ParseB, ParseN, ParseC, ParseD, ParseE, ParseF, ParseG, ParseH, ParseI, ParseJ, ParseK, ParseL, ParseM, TokAny, ParseO, ParseQ, ParseR, ParseS, ParseT, ParseU, ParseArg.)
-/
import Derived.Test.YtkodpnfdmgbfnaaGreatDoorVmCA
import Derived.Test.YtkodpnfdmgbfnaaGreatDoorVmBF
import Derived.Test.YtkodpnfdmgbfnaaGreatDoorVmBI
/- A text's tokens, by the program. -/
set_option maxRecDepth 100000
set_option linter.unusedSimpArgs false
namespace Go.Proofs.YtkodpnfdmgbfnaaGreatDoor.Vm
open Go Go.VM Go.Proofs Go.Lex

/-- The ways to cut, each one's answer. -/
def ways (s : List UInt8) : List (Nat × Nat) :=
  match s with
  | [] => []
  | c :: l => [(1, wh isBlank s), (if s.take 2 = [40, 42] then (match rem (s.drop 2) 1 with | some n => (2, n + 2) | none => (9, s.length)) else (0, 0)),
      (if isLow c then (nameK (s.takeWhile isBeh), wh isBeh s) else (0, 0)), (if wh isDig s = 0 then (5, 0) else number s), (if c = 34 then ((txt l).1, (txt l).2 + 1) else (0, 0)),
      (if twos.contains (s.take 2) then (8, 2) else (8, if isOne c then 1 else 0)), (9, chN s)]
def fids : List FuncId := [30, 31, 32, 33, 34, 35, 36]
theorem ways_ok {s : List UInt8} (hs : s.length ≤ 500000) {j : Nat} {f : FuncId} {p : Nat × Nat} (hf : fids[j]? = some f) (hp : (ways s)[j]? = some p) :
    (orc vE).bare f [.str s] = some (.tup [.int .u8 (p.1 : Int), .int .i64 (p.2 : Int)]) ∧ vE.full f = false ∧ vE.prim f = none := by
  cases s with
  | nil => simp [ways] at hp
  | cons c l =>
    match j, hf, hp with
    | 0, hf, hp => cases hf; cases hp; exact ⟨blank_ok (by omega), rfl, rfl⟩
    | 1, hf, hp =>
      cases hf; cases hp
      refine ⟨(remark_ok (by omega)).trans ?_, rfl, rfl⟩
      split
      · cases rem (List.drop 2 (c :: l)) 1 <;> rfl
      · rfl
    | 2, hf, hp =>
      cases hf; cases hp
      refine ⟨(name_ok (by omega)).trans ?_, rfl, rfl⟩
      split <;> rfl
    | 3, hf, hp =>
      cases hf; cases hp
      refine ⟨(number_ok hs).trans ?_, rfl, rfl⟩
      split <;> rfl
    | 4, hf, hp =>
      cases hf; cases hp
      refine ⟨(text_ok (by omega)).trans ?_, rfl, rfl⟩
      split <;> rfl
    | 5, hf, hp =>
      cases hf; cases hp
      refine ⟨sign_ok.trans ?_, rfl, rfl⟩
      split
      · rfl
      · cases isOne c <;> rfl
    | 6, hf, hp => cases hf; cases hp; exact ⟨bad_ok (by simp), rfl, rfl⟩
    | j + 7, hf, hp => simp [fids] at hf
/-- The first one that cuts. -/
def first : List (Nat × Nat) → Nat × Nat
  | [] => (9, 0)
  | p :: l => if 0 < p.2 then p else first l
theorem low_beh {c : UInt8} (h : isLow c = true) : isBeh c = true := by unfold isBeh; rw [h]; rfl
theorem first_cut {s : List UInt8} (h : s ≠ []) : first (ways s) = cut s := by
  cases s with
  | nil => exact absurd rfl h
  | cons c l =>
    unfold cut
    simp only [ways, first]
    cases hb : isBlank c with
    | true =>
      have : 0 < wh isBlank (c :: l) := by rw [wh_cons, if_pos hb]; omega
      simp only [if_pos this, if_true]
    | false =>
      have : ¬ 0 < wh isBlank (c :: l) := by rw [wh_cons, hb]; simp
      simp only [if_neg this, Bool.false_eq_true, if_false]
      by_cases hr : (c :: l).take 2 = [40, 42]
      · simp only [if_pos hr]
        cases rem (List.drop 2 (c :: l)) 1 with
        | some n => simp
        | none => simp
      · simp only [if_neg hr, show ¬ (0 : Nat) < 0 by omega, if_false]
        cases hl : isLow c with
        | true =>
          have : 0 < wh isBeh (c :: l) := by rw [wh_cons, if_pos (low_beh hl)]; omega
          simp only [if_pos this, if_true]
        | false =>
          simp only [Bool.false_eq_true, if_false, show ¬ (0 : Nat) < 0 by omega]
          cases hd : isDig c with
          | true =>
            have h1 : 0 < wh isDig (c :: l) := by rw [wh_cons, if_pos hd]; omega
            have h2 := (number_le (c :: l) h1).1
            have h3 : ¬ wh isDig (c :: l) = 0 := by omega
            simp only [if_neg h3, show 0 < (number (c :: l)).2 by omega, if_true]
          | false =>
            have h1 : wh isDig (c :: l) = 0 := by rw [wh_cons, hd]; simp
            simp only [if_pos h1, show ¬ (0 : Nat) < 0 by omega, if_false, Bool.false_eq_true]
            by_cases hq : c = 34
            · simp only [if_pos hq, show 0 < (txt l).2 + 1 by omega, if_true]
            · simp only [if_neg hq, show ¬ (0 : Nat) < 0 by omega, if_false]
              by_cases ht : twos.contains ((c :: l).take 2) = true
              · simp only [if_pos ht, show (0 : Nat) < 2 by omega, if_true]
              · simp only [if_neg ht]
                cases ho : isOne c with
                | true => simp
                | false =>
                  have hz : 0 < chN (c :: l) := by unfold chN; split <;> omega
                  simp only [Bool.false_eq_true, if_false, show ¬ (0 : Nat) < 0 by omega, hz, if_true]
                  rfl
theorem callF_fn {β : Type} {f g : FuncId} (hp : vE.prim f = none) (args : List AV) (st : St) (K : Kv β) : callF (orc vE) (Sx.prim (sx vE g)) (.fn (.func f) [] []) args st K = callS (orc vE) f args st K := by
  have hp : Sx.prim (sx vE g) f = none := hp
  simp only [callF, callP, hp, List.nil_append, List.append_nil]
  rfl
/-- A token as a value. -/
def tok (p : Nat × List UInt8) : AV := .agg [.int .u8 (p.1 : Int), .str p.2]
def fnsV : AV := AV.sl 1 [AV.fn (Fn.func 30) [] [], AV.fn (Fn.func 31) [] [], AV.fn (Fn.func 32) [] [], AV.fn (Fn.func 33) [] [], AV.fn (Fn.func 34) [] [], AV.fn (Fn.func 35) [] [], AV.fn (Fn.func 36) [] []] Perm.shut
theorem fns_idx {β : Type} {j : Nat} {f : FuncId} (hf : fids[j]? = some f) (st : St) (K : AV → List Nat → Option β) : idxA 1 fnsV (j : Int) st K = K (.ip [.fn (.func f) [] []]) [] := by
  match j, hf with
  | 0, hf => cases hf; rfl
  | 1, hf => cases hf; rfl
  | 2, hf => cases hf; rfl
  | 3, hf => cases hf; rfl
  | 4, hf => cases hf; rfl
  | 5, hf => cases hf; rfl
  | 6, hf => cases hf; rfl
  | j + 7, hf => simp [fids] at hf
theorem cut_loop {s : List UInt8} (hs : s.length ≤ 500000) {st : St} {v : AV} {es : List AV} (ho : Own st 2 24 v es) (he : es.length ≤ 500000) : ∀ (l : List (Nat × Nat)) (j : Nat), (ways s).drop j = l → l.length + j = 7 → 0 < (first l).2 → (first l).2 ≤ s.length →
    ∃ v' st', loopO g23_L1 ([v, .str s, .int .i64 (j : Int)], st) = some (0, [v', .str (s.drop (first l).2)], st') ∧ Own st' 2 24 v' (es ++ [tok ((first l).1, s.take (first l).2)])
  | [], j, hd, hj, h0, _ => by simp [first] at h0
  | p :: l, j, hd, hj, h0, hle => by
    obtain ⟨hg, hr, hlt⟩ := drop_cons (α := Nat × Nat) hd
    have hj7 : j < 7 := by simp at hj; omega
    obtain ⟨f, hf⟩ : ∃ f, fids[j]? = some f := ⟨fids[j], List.getElem?_eq_getElem hj7⟩
    obtain ⟨hb, hfull, hprim⟩ := ways_ok hs hf hg
    have hc : ∀ {β : Type} (st : St) (K : Kv β), callS (orc vE) f [.str s] st K = K (.tup [.int .u8 (p.1 : Int), .int .i64 (p.2 : Int)]) st q0 := fun st K => callS_bare st K hfull rfl rfl hb
    have hidx := fun {β : Type} (st : St) (K : AV → List Nat → Option β) => fns_idx hf st K
    unfold fnsV at hidx
    have q : (j : Int) < 7 := by omega
    by_cases hp : 0 < p.2
    · have hp' : (p.2 : Int) > 0 := by omega
      have hfi : first (p :: l) = p := by simp only [first, if_pos hp]
      rw [hfi] at hle ⊢
      obtain ⟨v', st', o', k', x', a'⟩ := own_app (b := 24) (tok (p.1, s.take p.2)) ho (room_of (by omega) (by omega) (by omega))
      refine ⟨v', st', loopO_inr ?_, o'⟩
      have a' : ∀ {β : Type} (K : Kv β), appS 2 24 24 v [.agg [.int .u8 (p.1 : Int), .str (s.take p.2)]] st K = K v' st' x' := fun K => a' K
      simp only [g23_L1, unc_cons, asS_str, asI_int, un0_nil, ifB_decide, if_pos q, hidx, loadS_ip, takeO_one, bindO_ok, callF_fn hprim, hc, unT_tup, nthS_zero, nthS_one, if_pos hp', uptoS_nat hle, List.drop_zero, letV_eq, a', List.take_length]
    · have hp' : ¬ (p.2 : Int) > 0 := by omega
      have hfi : first (p :: l) = first l := by simp only [first, if_neg hp]
      rw [hfi] at h0 hle ⊢
      obtain ⟨v', st', e', o'⟩ := cut_loop hs ho he l (j + 1) hr (by simp at hj; omega) h0 hle
      refine ⟨v', st', ?_, o'⟩
      rw [loopO_inl (s' := ([v, .str s, .int .i64 ((j + 1 : Nat) : Int)], st)), e']
      simp only [g23_L1, unc_cons, asS_str, asI_int, un0_nil, ifB_decide, if_pos q, hidx, loadS_ip, takeO_one, bindO_ok, callF_fn hprim, hc, unT_tup, nthS_zero, nthS_one, if_neg hp', letV_eq, wrapA1 (show j + 1 ≤ 9223372036854775807 by omega)]
theorem toks_loop : ∀ (n : Nat) (s : List UInt8) (st : St) (v : AV) (es : List AV), s.length ≤ n → n ≤ 500000 → Own st 2 24 v es → es.length + n ≤ 500000 →
    ∃ v' st', loopO g23_L2 ([v, .str s], st) = some (0, [v'], st') ∧ Own st' 2 24 v' (es ++ (tokens s).map tok)
  | n, [], st, v, es, _, _, ho, _ => by
    refine ⟨v, st, loopO_inr ?_, by simpa [tokens_nil] using ho⟩
    simp only [g23_L2, unc_cons, asS_str, un0_nil, show (!(([] : List UInt8) == [])) = false from rfl, ifB_false]
  | 0, c :: l, _, _, _, h, _, _, _ => by simp at h
  | n + 1, c :: l, st, v, es, h, hn, ho, he => by
    have hc := cut_le (s := c :: l) (by simp)
    have hfc := first_cut (s := c :: l) (by simp)
    obtain ⟨v1, st1, e1, o1⟩ := cut_loop (s := c :: l) (by omega) ho (by omega) (ways (c :: l)) 0 rfl rfl (by rw [hfc]; omega) (by rw [hfc]; omega)
    rw [hfc] at e1 o1
    have hd : ((c :: l).drop (cut (c :: l)).2).length ≤ n := by rw [List.length_drop]; omega
    obtain ⟨v2, st2, e2, o2⟩ := toks_loop n ((c :: l).drop (cut (c :: l)).2) st1 v1 _ hd (by omega) o1 (by rw [List.length_append]; simp; omega)
    refine ⟨v2, st2, ?_, ?_⟩
    · have e1 : loopO g23_L1 ([v, .str (c :: l), .int .i64 0], st) = _ := e1
      rw [loopO_inl (s' := ([v1, .str ((c :: l).drop (cut (c :: l)).2)], st1)), e2]
      simp only [g23_L2, unc_cons, asS_str, un0_nil, show (!((c :: l : List UInt8) == [])) = true from rfl, ifB_true, e1, bindO_ok]
    · rw [tokens_cons (by simp), List.map_cons]
      rw [List.append_assoc] at o2
      exact o2
theorem valid_ok {s : List UInt8} (hs : s.length ≤ 1000000) : (orc vE).bare 29 [.str s] = some (.bool (validS s)) := by
  refine bare_of rfl ((g29_eq _).trans ?_)
  simp only [g29, asS_str, planS_lib (libValid_ok (show s.length ≤ 9223372036854775807 by omega)), asB_bool]
theorem call_valid {β : Type} {s : List UInt8} (hs : s.length ≤ 1000000) (st : St) (K : Kv β) : callS (orc vE) 29 [.str s] st K = K (.bool (validS s)) st q0 := callS_bare st K rfl rfl rfl (valid_ok hs)
/-- Tokens. -/
theorem tokens_large {s : List UInt8} (h : 65536 < s.length) : (orc vE).bare 23 [.str s] = some (.tup [.nils, .int .i64 40]) := by
  refine bare_of rfl ((g23_eq _).trans ?_)
  have q : (s.length : Int) > 65536 := by omega
  simp only [g23, asS_str, ifB_decide, if_pos q]
theorem tokens_form {s : List UInt8} (h : s.length ≤ 65536) (hv : validS s = false) : (orc vE).bare 23 [.str s] = some (.tup [.nils, .int .i64 4]) := by
  refine bare_of rfl ((g23_eq _).trans ?_)
  have q : ¬ (s.length : Int) > 65536 := by omega
  simp only [g23, asS_str, ifB_decide, if_neg q, call_valid (show s.length ≤ 1000000 by omega), hv, asB_bool, Bool.not_false, ifB_true]
theorem tokens_ok {s : List UInt8} (h : s.length ≤ 65536) (hv : validS s = true) : ∃ x, (orc vE).bare 23 [.str s] = some (.tup [x, .int .i64 0]) ∧ IsSl 2 x ((tokens s).map tok) := by
  have q : ¬ (s.length : Int) > 65536 := by omega
  obtain ⟨v', st', e, o⟩ := toks_loop s.length s (St.mk 0 0 Tr.leaf) .nils [] (Nat.le_refl _) (by omega) (Own.nils (Nat.le_refl _) _ _) (by simp; omega)
  rw [List.nil_append] at o
  obtain ⟨x, hx, hf⟩ := frz_own2 o (fz_int .i64 0) rfl
  refine ⟨x, bare_of rfl ((g23_eq _).trans ?_), hx⟩
  simp only [g23, asS_str, ifB_decide, if_neg q, call_valid (show s.length ≤ 1000000 by omega), hv, asB_bool, Bool.not_true, ifB_false, e, bindO_ok, unc_cons, un0_nil, hf]
end Go.Proofs.YtkodpnfdmgbfnaaGreatDoor.Vm
/- Tokens as values: for seats that do not reach lex.One (else LexK has these). -/
set_option maxRecDepth 100000
set_option linter.unusedSimpArgs false
namespace Go.Proofs.YtkodpnfdmgbfnaaGreatDoor.Vm
open Go Go.VM Go.Proofs Go.Lex

theorem toks_idx {x : AV} {es : List (Nat × List UInt8)} (h : IsSl 2 x (es.map tok)) {j : Nat} {p : Nat × List UInt8} (hj : es[j]? = some p) {β : Type} (st : St) (K : AV → List Nat → Option β) : idxA 2 x (j : Int) st K = K (.ip [.int .u8 (p.1 : Int), .str p.2]) [] :=
  h.idx (by rw [List.getElem?_map, hj]; rfl) st K
end Go.Proofs.YtkodpnfdmgbfnaaGreatDoor.Vm
/- The program's parser: the token that is next. -/
set_option maxRecDepth 100000
set_option linter.unusedSimpArgs false
namespace Go.Proofs.YtkodpnfdmgbfnaaGreatDoor.Vm
open Go Go.VM Go.Proofs Go.Lex

/-- A parser at a place. -/
structure PSg (PT : TypeId) (st : St) (p : Nat) (L : List Parse.Tok) (x : AV) (i d : Nat) : Prop where
  get : st.get p = .ok (.cells PT [x, .int .i64 (i : Int), .int .i64 (d : Int)])
  sl : IsSl 2 x (L.map tok)
  le : i ≤ L.length
  len : L.length ≤ 1000000
  ro : st.ro ≤ p
section
variable {PT : TypeId} {st st' : St} {p : Nat} {L : List Parse.Tok} {x : AV} {i d : Nat}
theorem PSg.lt (h : PSg PT st p L x i d) : p < st.h := (St.get_ok.1 h.get).1
theorem PSg.keeps {but : Nat → Prop} (h : PSg PT st p L x i d) (k : Keeps st st' but) (hp : ¬ but p) : PSg PT st' p L x i d :=
  ⟨k.old _ _ hp h.get, h.sl, h.le, h.len, by rw [k.ro]; exact h.ro⟩
theorem PSg.ro_h (h : PSg PT st p L x i d) : st.ro ≤ st.h := Nat.le_trans h.ro (Nat.le_of_lt h.lt)
end
abbrev PS := PSg 51
theorem PS.ro_keeps {st st' : St} {but : Nat → Prop} (k : Keeps st st' but) (h : st.ro ≤ st.h) : st'.ro ≤ st'.h := by rw [k.ro]; exact Nat.le_trans h k.h
theorem triv_ok (t : Parse.Tok) : (orc vE).bare 56 [.agg [.int .u8 (t.1 : Int), .str t.2]] = some (.bool (Parse.trivB t)) := by
  refine bare_of rfl ((g56_eq _).trans ?_)
  unfold Parse.trivB
  by_cases h1 : t.1 = 1
  · have h1' : (t.1 : Int) = 1 := by omega
    have e : (t.1 == 1 || t.1 == 2) = true := by simp [h1]
    rw [e]
    simp only [g56, unA_agg, unc_cons, asI_int, asS_str, un0_nil, ifB_beq, if_pos h1', bindO_ok, asB_bool]
  · have h1' : ¬ (t.1 : Int) = 1 := by omega
    have h2 : ((t.1 : Int) == 2) = (t.1 == 2) := by
      by_cases h : t.1 = 2
      · rw [h]; rfl
      · rw [beq_eq_false_iff_ne.2 h, beq_eq_false_iff_ne.2 (show ¬ (t.1 : Int) = 2 by omega)]
    simp only [g56, unA_agg, unc_cons, asI_int, asS_str, un0_nil, ifB_beq, if_neg h1', bindO_ok, asB_bool, h2, beq_eq_false_iff_ne.2 h1, Bool.false_or]
theorem call_triv (t : Parse.Tok) {β : Type} (st : St) (K : Kv β) : callS (orc vE) 56 [.agg [.int .u8 (t.1 : Int), .str t.2]] st K = K (.bool (Parse.trivB t)) st q0 := callS_bare st K rfl rfl rfl (triv_ok t)
/-- How many blanks and remarks stand ahead. -/
def wT (r : List Parse.Tok) : Nat := (r.takeWhile Parse.trivB).length
theorem wT_cons (t : Parse.Tok) (r : List Parse.Tok) : wT (t :: r) = if Parse.trivB t = true then wT r + 1 else 0 := by
  unfold wT
  rw [List.takeWhile_cons]
  split <;> rfl
theorem nx_cons (t : Parse.Tok) (r : List Parse.Tok) : Parse.nx (t :: r) = if Parse.trivB t = true then Parse.nx r else t := by
  unfold Parse.nx
  rw [List.dropWhile_cons]
  cases Parse.trivB t <;> rfl
theorem next_loop {p d : Nat} {L : List Parse.Tok} {x : AV} {st0 : St} {i0 : Nat} : ∀ (l : List Parse.Tok) (j : Nat) (st : St), L.drop j = l → PS st p L x i0 d → st.get st0.h = .ok (.cells 24 [.int .u8 0, .str []]) → st0.h ≠ p → st.ro ≤ st0.h →
    ∃ st' n, loopO (w37_L1 (.mp p 0) st0) ([.int .i64 0, .int .i64 (j : Int)], st) = some (n, [.int .i64 (if l.dropWhile Parse.trivB = [] then 0 else ((j + wT l : Nat) : Int))], st') ∧
      (n = if l.dropWhile Parse.trivB = [] then 0 else 1) ∧ Keeps st st' (· = st0.h) ∧ st'.h = st.h ∧ (l.dropWhile Parse.trivB = [] → st' = st) ∧ (l.dropWhile Parse.trivB ≠ [] → st'.get st0.h = .ok (.cells 24 [.int .u8 ((Parse.nx l).1 : Int), .str (Parse.nx l).2]))
  | [], j, st, hd, hp, hg, hne, hro => by
    have := List.drop_eq_nil_iff.1 hd
    have q : ¬ (j : Int) < ((L.map tok).length : Int) := by rw [List.length_map]; omega
    refine ⟨st, 0, loopO_inr ?_, rfl, Keeps.refl _ _, rfl, fun _ => rfl, fun h => absurd rfl h⟩
    simp only [w37_L1, unc_cons, asI_int, un0_nil, notNil_mp, chk_true, fldA_mp, Nat.add_zero, Nat.zero_add, loadS_mp hp.get, List.drop_zero, takeO_one, bindO_ok, hp.sl.len, ifB_decide, if_neg q]
    rfl
  | t :: l, j, st, hd, hp, hg, hne, hro => by
    obtain ⟨hgt, hr, hlt⟩ := drop_cons hd
    have q : (j : Int) < ((L.map tok).length : Int) := by rw [List.length_map]; omega
    have hlen := hp.len
    cases ht : Parse.trivB t with
    | true =>
      obtain ⟨st', n, e1, e2, e3, e4, e5, e6⟩ := next_loop l (j + 1) st hr hp hg hne hro
      have hdw : (t :: l).dropWhile Parse.trivB = l.dropWhile Parse.trivB := by rw [List.dropWhile_cons, ht]; rfl
      rw [hdw, wT_cons, ht, if_pos rfl, nx_cons, ht, if_pos rfl, show j + (wT l + 1) = j + 1 + wT l by omega]
      refine ⟨st', n, ?_, e2, e3, e4, e5, e6⟩
      rw [loopO_inl (s' := ([.int .i64 0, .int .i64 ((j + 1 : Nat) : Int)], st)), e1]
      simp only [w37_L1, unc_cons, asI_int, un0_nil, notNil_mp, chk_true, fldA_mp, Nat.add_zero, Nat.zero_add, loadS_mp hp.get, List.drop_zero, takeO_one, bindO_ok, hp.sl.len, ifB_decide, if_pos q, toks_idx hp.sl hgt, loadS_ip, takeO2, unA_agg, asS_str, call_triv, ht, asB_bool, Bool.not_true, ifB_false, letV_eq, wrapA1 (show j + 1 ≤ 9223372036854775807 by omega)]
    | false =>
      have hdw : (t :: l).dropWhile Parse.trivB = t :: l := by rw [List.dropWhile_cons, ht]; rfl
      obtain ⟨st1, g1, k1, n1, fx, e1⟩ := var_put (O := orc vE) (.agg [.int .u8 (t.1 : Int), .str t.2]) hg (z := 2) (cs := [.int .u8 (t.1 : Int), .str t.2]) rfl rfl hro
      rw [hdw, wT_cons, ht, if_neg (by simp), if_neg (by simp), nx_cons, ht, if_neg (by simp)]
      refine ⟨st1, 1, loopO_inr ?_, rfl, k1, n1, fun h => by simp at h, fun _ => g1⟩
      simp only [w37_L1, unc_cons, asI_int, un0_nil, notNil_mp, chk_true, fldA_mp, Nat.add_zero, Nat.zero_add, loadS_mp hp.get, List.drop_zero, takeO_one, bindO_ok, hp.sl.len, ifB_decide, if_pos q, toks_idx hp.sl hgt, loadS_ip, takeO2, unA_agg, asS_str, call_triv, ht, asB_bool, Bool.not_false, ifB_true, e1]
theorem wT_end : ∀ {l : List Parse.Tok}, l.dropWhile Parse.trivB = [] → wT l = l.length
  | [], _ => rfl
  | t :: l, h => by
    rw [List.dropWhile_cons] at h
    rw [wT_cons]
    cases ht : Parse.trivB t with
    | true => rw [ht, if_pos rfl] at h; rw [if_pos rfl, wT_end h]; rfl
    | false => rw [ht, if_neg (by simp)] at h; cases h
theorem nx_end {l : List Parse.Tok} (h : l.dropWhile Parse.trivB = []) : Parse.nx l = (0, []) := by unfold Parse.nx; rw [h]
theorem next_ok {st : St} {p : Nat} {L : List Parse.Tok} {x : AV} {i d : Nat} (h : PS st p L x i d) :
    ∃ st', (orc vE).wide 37 [.mp p 0] st = some (.tup [.agg [.int .u8 ((Parse.nx (L.drop i)).1 : Int), .str (Parse.nx (L.drop i)).2], .int .i64 ((i + wT (L.drop i) : Nat) : Int)], st') ∧ Keeps st st' (fun _ => False) := by
  have k0 : Keeps st (st.add (.cells 24 [.int .u8 0, .str []])) (fun _ => False) := Keeps.add _ _ _
  have h0 := h.keeps k0 (fun f => f)
  have g0 : (st.add (.cells 24 [.int .u8 0, .str []])).get st.h = .ok (.cells 24 [.int .u8 0, .str []]) := St.get_add_new
  have hne : st.h ≠ p := Nat.ne_of_gt h.lt
  obtain ⟨st1, n, e1, e2, e3, e4, e5, e6⟩ := next_loop (st0 := st) (L.drop i) i _ rfl h0 g0 hne h.ro_h
  by_cases hd : (L.drop i).dropWhile Parse.trivB = []
  · have := e5 hd
    subst this
    rw [if_pos hd] at e1 e2
    subst e2
    obtain ⟨st2, o, g2, k2, n2, p2⟩ := var_put2 (O := orc vE) (.agg [.int .u8 0, .str []]) g0 (z := 2) (cs := [.int .u8 0, .str []]) rfl rfl h.ro_h
    have hw : ((i + wT (L.drop i) : Nat) : Int) = ((L.map tok).length : Int) := by
      have hle := h.le
      rw [wT_end hd, List.length_drop, List.length_map]; omega
    refine ⟨st2, wide_of ((w37_eq _ _).trans ?_), k0.fresh k2 (Nat.le_refl _)⟩
    rw [hw, nx_end hd]
    have a1 := apart_wr (o := o) hne.symm
    simp only [w37, letSt_eq, notNil_mp, chk_true, fldA_mp, Nat.zero_add, loadS_mp h0.get, drop1, List.drop_zero, takeO_one, bindO_ok, asI_int, e1, unc_cons, un0_nil, sel2_zero, h0.sl.len, p2, apart_wr0, a1, Bool.and_self, loadS_mp g2, takeO2, unA_agg, asS_str]
    rfl
  · rw [if_neg hd] at e1 e2
    subst e2
    refine ⟨st1, wide_of ((w37_eq _ _).trans ?_), k0.fresh e3 (Nat.le_refl _)⟩
    simp only [w37, letSt_eq, notNil_mp, chk_true, fldA_mp, Nat.zero_add, loadS_mp h0.get, drop1, List.drop_zero, takeO_one, bindO_ok, asI_int, e1, unc_cons, un0_nil, sel2_one, loadS_mp (e6 hd), takeO2, unA_agg, asS_str]
theorem call_next {st : St} {p : Nat} {L : List Parse.Tok} {x : AV} {i d : Nat} (h : PS st p L x i d) :
    ∃ st', Keeps st st' (fun _ => False) ∧ ∀ {β : Type} (K : Kv β), callS (orc vE) 37 [.mp p 0] st K = K (.tup [.agg [.int .u8 ((Parse.nx (L.drop i)).1 : Int), .str (Parse.nx (L.drop i)).2], .int .i64 ((i + wT (L.drop i) : Nat) : Int)]) st' ⟨[], .all st st'⟩ := by
  obtain ⟨st', e, k⟩ := next_ok h
  exact ⟨st', k, fun K => callS_wide (E := vE) K rfl rfl e⟩
end Go.Proofs.YtkodpnfdmgbfnaaGreatDoor.Vm
/- Is one of some words and signs next? What is taken. -/
set_option maxRecDepth 100000
set_option linter.unusedSimpArgs false
namespace Go.Proofs.YtkodpnfdmgbfnaaGreatDoor.Vm
open Go Go.VM Go.Proofs Go.Lex

/-- The first place of a text. -/
def idxS (s : List UInt8) : List (List UInt8) → Nat → Option Nat
  | [], _ => none
  | t :: l, j => if s = t then some j else idxS s l (j + 1)
theorem idxS_any (s : List UInt8) : ∀ (l : List (List UInt8)) (j : Nat), (idxS s l j).isSome = l.any fun t => t == s
  | [], _ => rfl
  | t :: l, j => by
    simp only [idxS, List.any_cons]
    by_cases h : s = t
    · rw [if_pos h, h]; simp
    · rw [if_neg h, idxS_any s l (j + 1), beq_eq_false_iff_ne.2 (fun e => h e.symm), Bool.false_or]
theorem str_idx {x : AV} {ss : List (List UInt8)} (h : IsSl 1 x (ss.map AV.str)) {j : Nat} {s : List UInt8} (hj : ss[j]? = some s) {β : Type} (st : St) (K : AV → List Nat → Option β) : idxA 1 x (j : Int) st K = K (.ip [.str s]) [] :=
  h.idx (v := .str s) (by rw [List.getElem?_map, hj]; rfl) st K
theorem index_loop {x : AV} {ss : List (List UInt8)} (hx : IsSl 1 x (ss.map AV.str)) (s : List UInt8) (st : St) : ∀ (l : List (List UInt8)) (j : Nat), ss.drop j = l →
    loopO (g87_L1 x s ss.length) ([.int .i64 0, .int .i64 (j : Int)], st) = (match idxS s l j with | some k => some (1, [.int .i64 (k : Int)], st) | none => some (0, [.int .i64 0], st))
  | [], j, hd => by
    have := List.drop_eq_nil_iff.1 hd
    have q : ¬ (j : Int) < (ss.length : Int) := by omega
    refine loopO_inr ?_
    simp only [g87_L1, unc_cons, asI_int, un0_nil, ifB_decide, if_neg q]
  | t :: l, j, hd => by
    obtain ⟨hg, hr, hlt⟩ := drop_cons hd
    have q : (j : Int) < (ss.length : Int) := by omega
    have hlen := hx.1
    rw [List.length_map] at hlen
    simp only [idxS]
    by_cases h : s = t
    · rw [if_pos h]
      refine loopO_inr ?_
      have hb : (s == t) = true := by simp [h]
      simp only [g87_L1, unc_cons, asI_int, un0_nil, ifB_decide, if_pos q, str_idx hx hg, loadS_ip, takeO_one, bindO_ok, asS_str, hb, ifB_true]
    · rw [if_neg h, loopO_inl (s' := ([.int .i64 0, .int .i64 ((j + 1 : Nat) : Int)], st)), index_loop hx s st l (j + 1) hr]
      have hb : (s == t) = false := beq_eq_false_iff_ne.2 h
      simp only [g87_L1, unc_cons, asI_int, un0_nil, ifB_decide, if_pos q, str_idx hx hg, loadS_ip, takeO_one, bindO_ok, asS_str, hb, ifB_false, letV_eq, wrapA1 (show j + 1 ≤ 9223372036854775807 by omega)]
theorem contains_ok {x : AV} {ss : List (List UInt8)} (hx : IsSl 1 x (ss.map AV.str)) (s : List UInt8) : (orc vE).bare 57 [x, .str s] = some (.bool (ss.any fun t => t == s)) := by
  have hi : ∃ n : Int, (orc vE).bare 87 [x, .str s] = some (.int .i64 n) ∧ decide (n ≥ 0) = ss.any fun t => t == s := by
    have e := index_loop hx s (St.mk 0 0 Tr.leaf) ss 0 rfl
    have e : loopO (g87_L1 x s ss.length) ([.int .i64 0, .int .i64 0], St.mk 0 0 Tr.leaf) = _ := e
    have hl := fun {β : Type} (K : Nat → Option β) => hx.len K
    simp only [List.length_map] at hl
    rw [← idxS_any s ss 0]
    cases hk : idxS s ss 0 with
    | some k =>
      rw [hk] at e
      refine ⟨(k : Int), bare_of rfl ((g87_eq _ _).trans ?_), by simp⟩
      simp only [g87, asS_str, hl, e, bindO_ok, unc_cons, asI_int, un0_nil, sel2_one]
    | none =>
      rw [hk] at e
      refine ⟨-1, bare_of rfl ((g87_eq _ _).trans ?_), by simp⟩
      simp only [g87, asS_str, hl, e, bindO_ok, unc_cons, asI_int, un0_nil, sel2_zero]
  obtain ⟨n, h1, h2⟩ := hi
  refine bare_of rfl ((g57_eq _ _).trans ?_)
  have c := fun {β : Type} (st : St) (K : Kv β) => callS_bare (f := 87) st K rfl (by simp only [List.map_cons, List.map_nil, hx.strip]; rfl) (by simp only [bares_cons, hx.bare]; rfl) h1
  simp only [g57, asS_str, c, asI_int, h2]
theorem call_contains {x : AV} {ss : List (List UInt8)} (hx : IsSl 1 x (ss.map AV.str)) (s : List UInt8) {β : Type} (st : St) (K : Kv β) : callS (orc vE) 57 [x, .str s] st K = K (.bool (ss.any fun t => t == s)) st q0 :=
  callS_bare (f := 57) st K rfl (by simp only [List.map_cons, List.map_nil, hx.strip]; rfl) (by simp only [bares_cons, hx.bare]; rfl) (contains_ok hx s)
/-- A local token. -/
theorem lvT (st : St) (k : Nat) (t : List UInt8) (h : st.ro ≤ st.h) : ∃ st', st'.get st.h = .ok (.cells 24 [.int .u8 (k : Int), .str t]) ∧ Keeps st st' (fun _ => False) ∧ ∃ fx, ∀ {β : Type} (K : Kv β), storeS (orc vE) 2 (AV.mp st.h 0) (.agg [.int .u8 (k : Int), .str t]) [.int .u8 (k : Int), .str t] (st.add (.cells 24 [.int .u8 0, .str []])) K = K VM.undef st' fx := by
  obtain ⟨st', g, k1, _, fx, e⟩ := local_var (O := orc vE) (st := st) (t := 24) (z := 2) (old := [.int .u8 0, .str []]) (cs := [.int .u8 (k : Int), .str t]) (.agg [.int .u8 (k : Int), .str t]) rfl rfl h
  exact ⟨st', g, k1, fx, e⟩
theorem is_ok {st : St} {p : Nat} {L : List Parse.Tok} {x : AV} {i d : Nat} (h : PS st p L x i d) {y : AV} {ss : List (List UInt8)} (hy : IsSl 1 y (ss.map AV.str)) :
    ∃ st', (orc vE).wide 38 [.mp p 0, y] st = some (.bool (Parse.isAny ss (L.drop i)), st') ∧ Keeps st st' (fun _ => False) := by
  obtain ⟨st1, k1, c1⟩ := call_next h
  obtain ⟨st2, g2, k2, fx, e2⟩ := lvT st1 (Parse.nx (L.drop i)).1 (Parse.nx (L.drop i)).2 (PS.ro_keeps k1 h.ro_h)
  refine ⟨st2, wide_of ((w38_eq _ _ _).trans ?_), k1.trans k2⟩
  unfold Parse.isAny
  generalize Parse.nx (L.drop i) = t at c1 g2 e2
  by_cases h3 : t.1 = 3
  · have h3' : (t.1 : Int) = 3 := by omega
    have e : ((t.1 == 3 || t.1 == 8) && ss.any fun s => s == t.2) = ss.any fun s => s == t.2 := by simp [h3]
    rw [e]
    simp only [w38, c1, unT_tup, nthS_zero, nthS_one, unA_agg, unc_cons, asI_int, asS_str, un0_nil, letSt_eq, e2, loadS_mp g2, List.drop_zero, drop1, takeO_one, bindO_ok, ifB_beq, if_pos h3', call_contains hy, asB_bool]
  by_cases h8 : t.1 = 8
  · have h3' : ¬ (t.1 : Int) = 3 := by omega
    have h8' : (t.1 : Int) = 8 := by omega
    have e : ((t.1 == 3 || t.1 == 8) && ss.any fun s => s == t.2) = ss.any fun s => s == t.2 := by simp [h8]
    rw [e]
    simp only [w38, c1, unT_tup, nthS_zero, nthS_one, unA_agg, unc_cons, asI_int, asS_str, un0_nil, letSt_eq, e2, loadS_mp g2, List.drop_zero, drop1, takeO_one, bindO_ok, ifB_beq, if_neg h3', if_pos h8', call_contains hy, asB_bool]
  · have h3' : ¬ (t.1 : Int) = 3 := by omega
    have h8' : ¬ (t.1 : Int) = 8 := by omega
    have e : ((t.1 == 3 || t.1 == 8) && ss.any fun s => s == t.2) = false := by simp [h3, h8]
    rw [e]
    simp only [w38, c1, unT_tup, nthS_zero, nthS_one, unA_agg, unc_cons, asI_int, asS_str, un0_nil, letSt_eq, e2, loadS_mp g2, List.drop_zero, drop1, takeO_one, bindO_ok, ifB_beq, if_neg h3', if_neg h8', asB_bool]
theorem call_is {st : St} {p : Nat} {L : List Parse.Tok} {x : AV} {i d : Nat} (h : PS st p L x i d) {y : AV} {ss : List (List UInt8)} (hy : IsSl 1 y (ss.map AV.str)) :
    ∃ st', Keeps st st' (fun _ => False) ∧ ∀ {β : Type} (K : Kv β), callS (orc vE) 38 [.mp p 0, y] st K = K (.bool (Parse.isAny ss (L.drop i))) st' ⟨[], .all st st'⟩ := by
  obtain ⟨st', e, k⟩ := is_ok h hy
  exact ⟨st', k, fun K => callS_wide (E := vE) K rfl rfl e⟩
theorem isAny_one (s : List UInt8) (r : List Parse.Tok) : Parse.isAny [s] r = Parse.isS s r := by
  unfold Parse.isAny Parse.isS
  congr 1
  simp only [List.any_cons, List.any_nil, Bool.or_false]
  rw [Bool.eq_iff_iff, beq_iff_eq, beq_iff_eq]
  exact eq_comm
theorem shut_strs (l : List (List UInt8)) (h : l.length ≤ 1000) : IsSl 1 (.sl 1 (l.map AV.str) .shut) (l.map AV.str) := IsSl.shut (by rw [List.length_map]; omega)
end Go.Proofs.YtkodpnfdmgbfnaaGreatDoor.Vm
/- Nodes as values. -/
set_option maxRecDepth 100000
set_option linter.unusedSimpArgs false
namespace Go.Proofs.YtkodpnfdmgbfnaaGreatDoor.Vm
open Go Go.VM Go.Proofs Go.Lex Go.Parse

mutual
/-- A tree that never changes. -/
def IsN : T → AV → Prop
  | .mk k tk tx l, v => ∃ x es, v = .agg [.int .u8 (k : Int), .int .u8 (tk : Int), .str tx, x] ∧ IsSl 4 x es ∧ IsNs l es
def IsNs : List T → List AV → Prop
  | [], es => es = []
  | t :: l, es => ∃ e r, es = e :: r ∧ IsN t e ∧ IsNs l r
end
theorem IsNs.nil : IsNs [] [] := by simp only [IsNs]
theorem IsNs.cons {t : T} {l : List T} {e : AV} {r : List AV} (h : IsN t e) (hs : IsNs l r) : IsNs (t :: l) (e :: r) := by
  simp only [IsNs]; exact ⟨e, r, rfl, h, hs⟩
theorem IsNs.app : ∀ {l m : List T} {es fs : List AV}, IsNs l es → IsNs m fs → IsNs (l ++ m) (es ++ fs)
  | [], _, _, _, h, k => by simp only [IsNs] at h; subst h; exact k
  | t :: l, _, _, _, h, k => by
    simp only [IsNs] at h
    obtain ⟨e, r, rfl, h1, h2⟩ := h
    exact IsNs.cons h1 (IsNs.app h2 k)
theorem IsNs.len : ∀ {l : List T} {es : List AV}, IsNs l es → es.length = l.length
  | [], _, h => by simp only [IsNs] at h; subst h; rfl
  | t :: l, _, h => by
    simp only [IsNs] at h
    obtain ⟨e, r, rfl, h1, h2⟩ := h
    simp [IsNs.len h2]
/-- Children, which may be appended to or not. -/
def IsK (x : AV) (es : List AV) : Prop := IsSl 4 x es ∨ (es.length ≤ 9223372036854775807 ∧ ∃ k, x = .sl 4 es (.own k))
theorem IsK.one {x : AV} {es : List AV} (h : IsK x es) : VM.one x = true := by
  rcases h with h | ⟨_, k, rfl⟩
  · exact h.one
  · rfl
theorem IsK.asOne {β : Type} {x : AV} {es : List AV} (h : IsK x es) (K : Option β) : asOne x K = K := asOne_of h.one K
theorem IsK.fit {x : AV} {es : List AV} (h : IsK x es) : ∃ x', IsSl 4 x' es ∧ ∀ {β : Type} (K : AV → Option β), fit1 x K = K x' := by
  rcases h with h | ⟨hl, k, rfl⟩
  · exact ⟨x, h, fun K => h.fit1 K⟩
  · exact ⟨.sl 4 es .wide, IsSl.wide hl, fun K => rfl⟩
theorem IsK.own {st : St} {e : TypeId} {x : AV} {es : List AV} (h : Own st 4 e x es) : IsK x es := by
  rcases h.2.2 with ⟨rfl | rfl, rfl⟩ | rfl | ⟨k, rfl, _, _⟩
  · exact .inl IsSl.nils
  · exact .inl IsSl.emp
  · exact .inl (IsSl.shut h.2.1)
  · exact .inr ⟨h.2.1, k, rfl⟩
theorem IsK.elems {β : Type} {x : AV} {es : List AV} (h : IsK x es) (K : List AV → Option β) : elemsS x K = K es := by
  rcases h with h | ⟨_, k, rfl⟩
  · exact h.elems K
  · rfl
/-- A tree, as a call hands it back. -/
structure VN (t : T) (v : AV) : Prop where
  ex : ∃ k tk tx l x es, t = .mk k tk tx l ∧ v = .agg [.int .u8 (k : Int), .int .u8 (tk : Int), .str tx, x] ∧ IsK x es ∧ IsNs l es
/-- The cells of one node. -/
structure Nd (t : T) (k tk : Nat) (tx : List UInt8) (x : AV) : Prop where
  ex : ∃ l es, t = .mk k tk tx l ∧ IsK x es ∧ IsNs l es
theorem Nd.one {t : T} {k tk : Nat} {tx : List UInt8} {x : AV} (h : Nd t k tk tx x) : VM.one x = true := by
  obtain ⟨l, es, _, hk, _⟩ := h.ex
  exact hk.one
theorem Nd.asOne {t : T} {k tk : Nat} {tx : List UInt8} {x : AV} (h : Nd t k tk tx x) {β : Type} (K : Option β) : asOne x K = K := asOne_of h.one K
theorem Nd.fit {t : T} {k tk : Nat} {tx : List UInt8} {x : AV} (h : Nd t k tk tx x) : ∃ x', IsN t (.agg [.int .u8 (k : Int), .int .u8 (tk : Int), .str tx, x']) ∧ ∀ {β : Type} (K : AV → Option β), fit1 x K = K x' := by
  obtain ⟨l, es, rfl, hk, hn⟩ := h.ex
  obtain ⟨x', hx, hf⟩ := hk.fit
  exact ⟨x', by simp only [IsN]; exact ⟨x', es, rfl, hx, hn⟩, hf⟩
theorem VN.cells {t : T} {v : AV} (h : VN t v) : ∃ (k tk : Nat) (tx : List UInt8) (x : AV), v = .agg [.int .u8 (k : Int), .int .u8 (tk : Int), .str tx, x] ∧ Nd t k tk tx x := by
  obtain ⟨k, tk, tx, l, x, es, rfl, rfl, hk, hn⟩ := h.ex
  exact ⟨k, tk, tx, x, rfl, ⟨⟨l, es, rfl, hk, hn⟩⟩⟩
theorem Nd.vn {t : T} {k tk : Nat} {tx : List UInt8} {x : AV} (h : Nd t k tk tx x) : VN t (.agg [.int .u8 (k : Int), .int .u8 (tk : Int), .str tx, x]) := by
  obtain ⟨l, es, rfl, hk, hn⟩ := h.ex
  exact ⟨⟨k, tk, tx, l, x, es, rfl, rfl, hk, hn⟩⟩
mutual
theorem IsN.rf : ∀ {t : T} {v : AV}, IsN t v → Rf (2 * depT t) v
  | .mk k tk tx l, v, h => by
    simp only [IsN] at h
    obtain ⟨x, es, rfl, hx, hn⟩ := h
    have he := IsNs.rf hn
    have hxr : Rf (2 * depL l + 1) x := by
      rcases hx.2 with ⟨rfl | rfl, rfl⟩ | rfl | rfl
      · exact rf_nils.mono (by omega)
      · exact rf_es.mono (by omega)
      · exact rf_sl he
      · exact rf_sl he
    simp only [depT]
    refine (rf_agg (d := 2 * depL l + 1) fun c hc => ?_).mono (by omega)
    simp only [List.mem_cons, List.mem_nil_iff, or_false] at hc
    rcases hc with rfl | rfl | rfl | rfl
    · exact (rf_int _ _).mono (by omega)
    · exact (rf_int _ _).mono (by omega)
    · exact (rf_str _).mono (by omega)
    · exact hxr
theorem IsNs.rf : ∀ {l : List T} {es : List AV}, IsNs l es → ∀ e ∈ es, Rf (2 * depL l) e
  | [], _, h, e, he => by simp only [IsNs] at h; subst h; cases he
  | t :: l, _, h, e, he => by
    simp only [IsNs] at h
    obtain ⟨a, r, rfl, h1, h2⟩ := h
    simp only [depL]
    rcases List.mem_cons.1 he with rfl | he
    · exact (IsN.rf h1).mono (by omega)
    · exact (IsNs.rf h2 e he).mono (by omega)
end
theorem Nd.rf {t : T} {k tk : Nat} {tx : List UInt8} {x : AV} (h : Nd t k tk tx x) : ∀ c ∈ [AV.int .u8 (k : Int), .int .u8 (tk : Int), .str tx, x], Rf (2 * depT t) c := by
  obtain ⟨l, es, rfl, hk, hn⟩ := h.ex
  have he := IsNs.rf hn
  have hxr : Rf (2 * depL l + 1) x := by
    rcases hk with hx | ⟨_, k, rfl⟩
    · rcases hx.2 with ⟨rfl | rfl, rfl⟩ | rfl | rfl
      · exact rf_nils.mono (by omega)
      · exact rf_es.mono (by omega)
      · exact rf_sl he
      · exact rf_sl he
    · exact rf_sl he
  intro c hc
  simp only [depT]
  simp only [List.mem_cons, List.mem_nil_iff, or_false] at hc
  rcases hc with rfl | rfl | rfl | rfl
  · exact (rf_int _ _).mono (by omega)
  · exact (rf_int _ _).mono (by omega)
  · exact (rf_str _).mono (by omega)
  · exact hxr.mono (by omega)
/-- A local node. -/
theorem lvN (st : St) (k tk : Int) (tx : List UInt8) (x : AV) (h : st.ro ≤ st.h) : ∃ st', st'.get st.h = .ok (.cells 27 [.int .u8 k, .int .u8 tk, .str tx, x]) ∧ Keeps st st' (fun _ => False) ∧ st'.h = st.h + 1 ∧ ∃ fx, ∀ {β : Type} (K : Kv β), storeS (orc vE) 4 (AV.mp st.h 0) (.agg [.int .u8 k, .int .u8 tk, .str tx, x]) [.int .u8 k, .int .u8 tk, .str tx, x] (st.add (.cells 27 [.int .u8 0, .int .u8 0, .str [], .nils])) K = K VM.undef st' fx := by
  obtain ⟨st', g, k1, n, fx, e⟩ := local_var (O := orc vE) (st := st) (t := 27) (z := 4) (old := [.int .u8 0, .int .u8 0, .str [], .nils]) (cs := [.int .u8 k, .int .u8 tk, .str tx, x]) (.agg [.int .u8 k, .int .u8 tk, .str tx, x]) rfl rfl h
  exact ⟨st', g, k1, n, fx, e⟩
/-- A node's variable, written anew. -/
theorem pvN {st : St} {id : Nat} {old : List AV} (hg : st.get id = .ok (.cells 27 old)) (ho : old.length = 4) (k tk : Int) (tx : List UInt8) (x : AV) (hro : st.ro ≤ id) : ∃ st', st'.get id = .ok (.cells 27 [.int .u8 k, .int .u8 tk, .str tx, x]) ∧ Keeps st st' (· = id) ∧ st'.h = st.h ∧ ∃ fx, ∀ {β : Type} (K : Kv β), storeS (orc vE) 4 (AV.mp id 0) (.agg [.int .u8 k, .int .u8 tk, .str tx, x]) [.int .u8 k, .int .u8 tk, .str tx, x] st K = K VM.undef st' fx := by
  obtain ⟨st', g, k1, n, fx, e⟩ := var_put (O := orc vE) (.agg [.int .u8 k, .int .u8 tk, .str tx, x]) hg ho (cs := [.int .u8 k, .int .u8 tk, .str tx, x]) rfl hro
  exact ⟨st', g, k1, n, fx, e⟩
theorem Keeps.join {a b c : St} {p q : Nat → Prop} (h : Keeps a b p) (k : Keeps b c q) (hq : ∀ j, q j → p j ∨ a.h ≤ j) : Keeps a c p :=
  ⟨k.ro.trans h.ro, Nat.le_trans h.h k.h, fun j o hj hg => k.old j o (fun e => by
    rcases hq j e with h1 | h1
    · exact hj h1
    · have := (St.get_ok.1 hg).1
      omega) (h.old j o hj hg)⟩
end Go.Proofs.YtkodpnfdmgbfnaaGreatDoor.Vm
/- The leaf of the token that is next, by the program. -/
set_option maxRecDepth 100000
set_option linter.unusedSimpArgs false
namespace Go.Proofs.YtkodpnfdmgbfnaaGreatDoor.Vm
open Go Go.VM Go.Proofs Go.Lex Go.Parse

def leafA (t : Tok) : AV := .agg [.int .u8 ((1 : Nat) : Int), .int .u8 (t.1 : Int), .str t.2, .nils]
theorem leafs_ok : ∀ (l : List Tok), IsNs (l.map leaf0) (l.map leafA)
  | [] => IsNs.nil
  | t :: l => IsNs.cons (by
      show IsN (.mk 1 t.1 t.2 []) (leafA t)
      simp only [IsN]
      exact ⟨.nils, [], rfl, IsSl.nils, IsNs.nil⟩) (leafs_ok l)
theorem drop_wT (r : List Tok) : r.drop (wT r) = r.dropWhile trivB := by
  have h : (r.takeWhile trivB ++ r.dropWhile trivB).drop (r.takeWhile trivB).length = r.dropWhile trivB := List.drop_left
  rw [List.takeWhile_append_dropWhile] at h
  exact h
theorem wT_le (r : List Tok) : wT r ≤ r.length := (List.takeWhile_sublist trivB).length_le
theorem take_wT (r : List Tok) : r.take (wT r) = r.takeWhile trivB := by
  have h : (r.takeWhile trivB ++ r.dropWhile trivB).take (r.takeWhile trivB).length = r.takeWhile trivB := List.take_left
  rw [List.takeWhile_append_dropWhile] at h
  exact h
/-- Where a parser stands behind what was taken. -/
def nextI (L : List Tok) (i : Nat) : Nat := min (i + wT (L.drop i) + 1) L.length
theorem takeR_drop (L : List Tok) (i : Nat) : takeR (L.drop i) = L.drop (nextI L i) := by
  unfold takeR nextI
  rw [← drop_wT, List.drop_drop, List.drop_drop]
  rcases Nat.lt_or_ge (i + wT (L.drop i) + 1) L.length with q | q
  · rw [Nat.min_eq_left (Nat.le_of_lt q)]
    congr 1
  · rw [Nat.min_eq_right q, List.drop_of_length_le (by omega), List.drop_of_length_le (Nat.le_refl _)]
theorem take_loop {x : AV} {Z : List Tok} (hx : IsSl 2 x (Z.map tok)) (hZ : Z.length ≤ 1000000) {st19 : St} {k tk : Int} {tx : List UInt8} {h0 : Nat} (hn0 : h0 ≤ st19.h) : ∀ (l : List Tok) (j : Nat) (st : St) (v : AV) (es : List AV), Z.drop j = l → st.get st19.h = .ok (.cells 27 [.int .u8 k, .int .u8 tk, .str tx, v]) → Own st 4 27 v es → (∀ j, ownerOf v j → h0 ≤ j) → es.length + l.length ≤ 2000000 → st.ro ≤ st19.h → h0 ≤ st.h →
    ∃ v' st', loopO (w39_L1 st19 x Z.length) ([.int .i64 (j : Int)], st) = some (0, [], st') ∧ st'.get st19.h = .ok (.cells 27 [.int .u8 k, .int .u8 tk, .str tx, v']) ∧ Own st' 4 27 v' (es ++ l.map leafA) ∧ (∀ j, ownerOf v' j → h0 ≤ j) ∧ Keeps st st' (fun j => h0 ≤ j)
  | [], j, st, v, es, hd, hg, ho, hfr, hl, hro, hh => by
    have := List.drop_eq_nil_iff.1 hd
    have q : ¬ (j : Int) < (Z.length : Int) := by omega
    refine ⟨v, st, loopO_inr ?_, hg, by simpa using ho, hfr, Keeps.refl _ _⟩
    simp only [w39_L1, unc_cons, asI_int, un0_nil, ifB_decide, if_neg q]
  | t :: l, j, st, v, es, hd, hg, ho, hfr, hl, hro, hh => by
    obtain ⟨hgt, hr, hlt⟩ := drop_cons hd
    have q : (j : Int) < (Z.length : Int) := by omega
    have hroh : st.ro ≤ st.h := Nat.le_trans hro (Nat.le_of_lt (St.get_ok.1 hg).1)
    obtain ⟨s1, g1, k1, fx1, e1⟩ := lvT st t.1 t.2 hroh
    have hg1 := k1.old _ _ (fun f => f) hg
    have ho1 := own_keep ho k1 (fun _ _ f => f)
    simp only [List.length_cons] at hl
    obtain ⟨v2, s2, x2, a2, o2, k2, f2⟩ := app_own (b := 56) (new := [leafA t]) ho1 (by simp) (room_of (by simp only [List.length_singleton]; omega) (by omega) (by omega))
    have hown2 : ¬ ownerOf v st19.h := ho.not hg
    have hg2 := k2.old _ _ hown2 hg1
    have hro2 : s2.ro ≤ st19.h := by rw [k2.ro, k1.ro]; exact hro
    have hst := fun {β : Type} (K : Kv β) => storeS_at (O := orc vE) (v := v2) (cs := [v2]) (off := 3) (z := 1) hg2 rfl (by simp) hro2 K
    have hsp : splice [.int .u8 k, .int .u8 tk, .str tx, v] 3 [v2] = [.int .u8 k, .int .u8 tk, .str tx, v2] := rfl
    rw [hsp] at hst
    have hg3 : (s2.put st19.h (.cells 27 [.int .u8 k, .int .u8 tk, .str tx, v2])).get st19.h = .ok (.cells 27 [.int .u8 k, .int .u8 tk, .str tx, v2]) := St.get_put_same (St.get_ok.1 hg2).1
    have ho3 : Own (s2.put st19.h (.cells 27 [.int .u8 k, .int .u8 tk, .str tx, v2])) 4 27 v2 (es ++ [leafA t]) := o2.put hg2
    have k3 : Keeps s2 (s2.put st19.h (.cells 27 [.int .u8 k, .int .u8 tk, .str tx, v2])) (· = st19.h) := Keeps.put rfl
    generalize s2.put st19.h (.cells 27 [.int .u8 k, .int .u8 tk, .str tx, v2]) = s3 at hst hg3 ho3 k3
    have hfr2 : ∀ j, ownerOf v2 j → h0 ≤ j := fun j hj => by
      rcases f2 j hj with h | h
      · exact hfr j h
      · have := k1.h; omega
    obtain ⟨v', st', e', g', o', f', k'⟩ := take_loop hx hZ hn0 l (j + 1) s3 v2 (es ++ [leafA t]) hr hg3 ho3 hfr2 (by rw [List.length_append]; simp; omega) (by rw [k3.ro]; exact hro2) (by have := k1.h; have := k2.h; have := k3.h; omega)
    refine ⟨v', st', ?_, g', by rw [List.append_assoc] at o'; exact o', f', ?_⟩
    · rw [loopO_inl (s' := ([.int .i64 ((j + 1 : Nat) : Int)], s3)), e']
      have a2 : ∀ {β : Type} (K : Kv β), appS 4 56 27 v [.agg [.int .u8 1, .int .u8 (t.1 : Int), .str t.2, .nils]] s1 K = K v2 s2 x2 := fun K => appS_of a2 K
      have ov : ∀ {β : Type} (K : Option β), asOne v2 K = K := fun K => asOne_of o2.one K
      simp only [w39_L1, unc_cons, asI_int, un0_nil, ifB_decide, if_pos q, toks_idx hx hgt, loadS_ip, takeO2, bindO_ok, unA_agg, asS_str, letSt_eq, e1, loadS_mp hg1, drop3, takeO_one, loadS_mp g1, List.drop_zero, a2, ov, hst, letV_eq, wrapA1 (show j + 1 ≤ 9223372036854775807 by omega)]
    · refine ((k1.weak (q := fun j => h0 ≤ j) (fun _ f => f.elim)).trans (k2.weak fun j hj => hfr j hj)).trans ((k3.weak fun j hj => ?_).trans k')
      have hj : j = st19.h := hj
      omega
theorem take_ok {st : St} {p : Nat} {L : List Tok} {x : AV} {i d : Nat} (h : PS st p L x i d) :
    ∃ v st', (orc vE).wide 39 [.mp p 0] st = some (v, st') ∧ VN (takeT (L.drop i)) v ∧ PS st' p L x (nextI L i) d ∧ Keeps st st' (· = p) := by
  have hle := h.le
  have hlen := h.len
  have hw := wT_le (L.drop i)
  rw [List.length_drop] at hw
  -- the result's variable
  have k0 : Keeps st (st.add (.cells 27 [.int .u8 0, .int .u8 0, .str [], .nils])) (fun _ => False) := Keeps.add _ _ _
  have g0 : (st.add (.cells 27 [.int .u8 0, .int .u8 0, .str [], .nils])).get st.h = .ok (.cells 27 [.int .u8 0, .int .u8 0, .str [], .nils]) := St.get_add_new
  have hro := h.ro_h
  have hlt := h.lt
  have h1 := h.keeps k0 (fun f => f)
  have n0 : (st.add (.cells 27 [.int .u8 0, .int .u8 0, .str [], .nils])).h = st.h + 1 := rfl
  generalize hs0 : st.add (.cells 27 [.int .u8 0, .int .u8 0, .str [], .nils]) = s0 at k0 g0 h1 n0
  obtain ⟨s1, k1, c1⟩ := call_next h1
  generalize hT : nx (L.drop i) = T0 at c1
  obtain ⟨s2, g2, k2, fx2, e2⟩ := lvT s1 T0.1 T0.2 (PS.ro_keeps k1 h1.ro_h)
  obtain ⟨s3, g3, k3, n3, fx3, e3⟩ := lvN s2 1 (T0.1 : Int) T0.2 .nils (PS.ro_keeps k2 (PS.ro_keeps k1 h1.ro_h))
  have kk := (k0.trans k1).trans (k2.trans k3)
  have h3 := h.keeps kk (fun f => f)
  obtain ⟨z, hz, ez⟩ := h.sl.cut (lo := some (i : Int)) (hi := some ((i + wT (L.drop i) : Nat) : Int)) (hiO_nat (by omega)) (hiO_nat (by rw [List.length_map]; omega))
  have hzm : ((L.map tok).take (i + wT (L.drop i))).drop i = ((L.drop i).take (wT (L.drop i))).map tok := by
    rw [← List.map_take, ← List.map_drop, List.drop_take]
    congr 2; omega
  rw [hzm] at hz
  have hZl : ((L.drop i).take (wT (L.drop i))).length ≤ 1000000 := by rw [List.length_take, List.length_drop]; omega
  have h2h : s0.h ≤ s2.h := by have := k1.h; have := k2.h; omega
  obtain ⟨v4, s4, e4, g4, o4, f4, k4⟩ := take_loop hz hZl (st19 := s2) (h0 := s0.h) h2h ((L.drop i).take (wT (L.drop i))) 0 s3 .nils [] rfl g3 (Own.nils (PS.ro_keeps k3 (PS.ro_keeps k2 (PS.ro_keeps k1 h1.ro_h))) _ _) (fun j hj => by obtain ⟨_, _, e⟩ := hj; cases e) (by simp only [List.length_nil]; omega) (by rw [kk.ro]; omega) (by have := k3.h; omega)
  rw [List.nil_append, take_wT] at o4
  have e4 : loopO (w39_L1 s2 z ((L.drop i).take (wT (L.drop i))).length) ([.int .i64 0], s3) = _ := e4
  have hzl : ∀ {β : Type} (K : Nat → Option β), lenS z K = K ((L.drop i).take (wT (L.drop i))).length := fun K => by rw [hz.len, List.length_map]
  have kk4 : Keeps st s4 (fun _ => False) := Keeps.join kk k4 fun j hj => .inr (by have := k0.h; have hj : s0.h ≤ j := hj; omega)
  have h4 := h.keeps kk4 (fun f => f)
  -- the parser moves on
  have hmin : (if ((L.map tok).length : Int) < ((i + wT (L.drop i) + 1 : Nat) : Int) then ((L.map tok).length : Int) else ((i + wT (L.drop i) + 1 : Nat) : Int)) = ((nextI L i : Nat) : Int) := by
    unfold nextI
    rw [List.length_map]
    split <;> omega
  have hst5 := fun {β : Type} (K : Kv β) => storeS_at (O := orc vE) (v := .int .i64 ((nextI L i : Nat) : Int)) (cs := [.int .i64 ((nextI L i : Nat) : Int)]) (off := 1) (z := 1) h4.get rfl (by simp) h4.ro K
  have hsp : splice [x, .int .i64 (i : Int), .int .i64 (d : Int)] 1 [.int .i64 ((nextI L i : Nat) : Int)] = [x, .int .i64 ((nextI L i : Nat) : Int), .int .i64 (d : Int)] := rfl
  rw [hsp] at hst5
  have g5p : (s4.put p (.cells 51 [x, .int .i64 ((nextI L i : Nat) : Int), .int .i64 (d : Int)])).get p = .ok (.cells 51 [x, .int .i64 ((nextI L i : Nat) : Int), .int .i64 (d : Int)]) := St.get_put_same (St.get_ok.1 h4.get).1
  have k5 : Keeps s4 (s4.put p (.cells 51 [x, .int .i64 ((nextI L i : Nat) : Int), .int .i64 (d : Int)])) (· = p) := Keeps.put rfl
  generalize s4.put p (.cells 51 [x, .int .i64 ((nextI L i : Nat) : Int), .int .i64 (d : Int)]) = s5 at hst5 g5p k5
  have hp5 : PS s5 p L x (nextI L i) d := ⟨g5p, h.sl, Nat.min_le_right _ _, hlen, by rw [k5.ro, kk4.ro]; exact h.ro⟩
  have hs2p : s2.h ≠ p := by omega
  have g5 := k5.of_ne hs2p g4
  have hsh : st.h ≠ p := by omega
  have gr5 := k5.of_ne hsh (k4.old _ _ (by omega) ((k1.trans (k2.trans k3)).old _ _ (fun f => f) g0))
  -- the result
  obtain ⟨s6, g6', k6, n6, fx6, e6⟩ := pvN gr5 rfl 1 (T0.1 : Int) T0.2 v4 (by rw [k5.ro, kk4.ro]; exact hro)
  have nd : Nd (takeT (L.drop i)) 1 T0.1 T0.2 v4 := by
    refine ⟨⟨_, _, ?_, IsK.own o4, leafs_ok _⟩⟩
    unfold takeT leaf
    rw [hT]
  have kf : Keeps st s6 (· = p) := by
    have ka : Keeps st s5 (· = p) := (kk4.weak fun _ f => f.elim).trans k5
    exact Keeps.join ka k6 fun j hj => .inr (by have hj : j = st.h := hj; omega)
  refine ⟨_, s6, wide_of ((w39_eq _ _).trans ?_), nd.vn, hp5.keeps k6 (fun e => hsh e.symm), kf⟩
  have w1 := wrapA1 (show i + wT (L.drop i) + 1 ≤ 9223372036854775807 by omega)
  simp only [w39, letSt_eq, hs0, c1, unT_tup, nthS_zero, nthS_one, unA_agg, unc_cons, asI_int, asS_str, un0_nil, e2, loadS_mp g2, List.drop_zero, takeO2, bindO_ok, e3, notNil_mp, chk_true, fldA_mp, Nat.zero_add, loadS_mp h3.get, drop1, takeO_one, ez, hzl, e4, letV_eq, w1, loadS_mp h4.get, h.sl.len, hmin, hst5, loadS_mp g5, takeO4, nd.asOne, e6, loadS_mp g6']
  rfl
end Go.Proofs.YtkodpnfdmgbfnaaGreatDoor.Vm
/- A word or sign that is needed; whether an atom begins. -/
set_option maxRecDepth 100000
set_option linter.unusedSimpArgs false
namespace Go.Proofs.YtkodpnfdmgbfnaaGreatDoor.Vm
open Go Go.VM Go.Proofs Go.Lex Go.Parse

/-- What a method makes: a tree, and where the parser stands then. -/
def NC (F : FuncId) (args : List AV) (st : St) (p : Nat) (L : List Tok) (x : AV) (d : Nat) (t : T) (r' : List Tok) : Prop :=
  ∃ v st' i', (orc vE).wide F args st = some (v, st') ∧ VN t v ∧ PS st' p L x i' d ∧ L.drop i' = r' ∧ Keeps st st' (· = p)
theorem NC.call {F : FuncId} {args : List AV} {st : St} {p : Nat} {L : List Tok} {x : AV} {d : Nat} {t : T} {r' : List Tok} (h : NC F args st p L x d t r') (h1 : vE.isLook F = false) (h2 : (bares (args.map strip) && !vE.full F) = false) :
    ∃ (k tk : Nat) (tx : List UInt8) (y : AV) (st' : St) (i' : Nat), Nd t k tk tx y ∧ PS st' p L x i' d ∧ L.drop i' = r' ∧ Keeps st st' (· = p) ∧ ∀ {β : Type} (K : Kv β), callS (orc vE) F args st K = K (.agg [.int .u8 (k : Int), .int .u8 (tk : Int), .str tx, y]) st' ⟨[], .all st st'⟩ := by
  obtain ⟨v, st', i', e, hv, hp, hr, hk⟩ := h
  obtain ⟨k, tk, tx, y, rfl, hn⟩ := hv.cells
  exact ⟨k, tk, tx, y, st', i', hn, hp, hr, hk, fun K => callS_wide (E := vE) K h1 h2 e⟩
theorem take_nc {st : St} {p : Nat} {L : List Tok} {x : AV} {i d : Nat} (h : PS st p L x i d) : NC 39 [.mp p 0] st p L x d (takeT (L.drop i)) (takeR (L.drop i)) := by
  obtain ⟨v, st', e, hv, hp, hk⟩ := take_ok h
  exact ⟨v, st', _, e, hv, hp, (takeR_drop L i).symm, hk⟩
theorem call_take {st : St} {p : Nat} {L : List Tok} {x : AV} {i d : Nat} (h : PS st p L x i d) :
    ∃ (k tk : Nat) (tx : List UInt8) (y : AV) (st' : St) (i' : Nat), Nd (takeT (L.drop i)) k tk tx y ∧ PS st' p L x i' d ∧ L.drop i' = takeR (L.drop i) ∧ Keeps st st' (· = p) ∧ ∀ {β : Type} (K : Kv β), callS (orc vE) 39 [.mp p 0] st K = K (.agg [.int .u8 (k : Int), .int .u8 (tk : Int), .str tx, y]) st' ⟨[], .all st st'⟩ :=
  (take_nc h).call rfl rfl
theorem call_missing (s : List UInt8) {β : Type} (st : St) (K : Kv β) : callS (orc vE) 89 [.str s] st K = K (.agg [.int .u8 2, .int .u8 0, .str s, .nils]) st q0 :=
  callS_bare st K rfl rfl rfl (bare_of rfl ((g89_eq _).trans (by simp only [g89, asS_str])))
theorem nd_missing (s : List UInt8) : Nd (missing s) 2 0 s .nils := ⟨⟨[], [], rfl, .inl IsSl.nils, IsNs.nil⟩⟩
/-- The result's variable. -/
theorem res_var {st : St} {p : Nat} {L : List Tok} {x : AV} {i d : Nat} (h : PS st p L x i d) : ∃ s0, st.add (.cells 27 [.int .u8 0, .int .u8 0, .str [], .nils]) = s0 ∧ s0.get st.h = .ok (.cells 27 [.int .u8 0, .int .u8 0, .str [], .nils]) ∧ PS s0 p L x i d ∧ Keeps st s0 (fun _ => False) ∧ st.h ≠ p ∧ st.ro ≤ st.h ∧ s0.h = st.h + 1 :=
  ⟨_, rfl, St.get_add_new, h.keeps (Keeps.add _ _ (fun _ => False)) (fun f => f), Keeps.add _ _ _, Nat.ne_of_gt h.lt, h.ro_h, rfl⟩
/-- The result, written. -/
theorem res_put {st s : St} {p : Nat} {L : List Tok} {x : AV} {i d : Nat} {old : List AV} (hg : s.get st.h = .ok (.cells 27 old)) (ho : old.length = 4) (hp : PS s p L x i d) (hne : st.h ≠ p) (hk : Keeps st s (· = p)) (hro : st.ro ≤ st.h) (k tk : Int) (tx : List UInt8) (y : AV) :
    ∃ s', s'.get st.h = .ok (.cells 27 [.int .u8 k, .int .u8 tk, .str tx, y]) ∧ PS s' p L x i d ∧ Keeps st s' (· = p) ∧ ∃ fx, ∀ {β : Type} (K : Kv β), storeS (orc vE) 4 (AV.mp st.h 0) (.agg [.int .u8 k, .int .u8 tk, .str tx, y]) [.int .u8 k, .int .u8 tk, .str tx, y] s K = K VM.undef s' fx := by
  obtain ⟨s', g, k1, _, fx, e⟩ := pvN hg ho k tk tx y (by rw [hk.ro]; exact hro)
  exact ⟨s', g, hp.keeps k1 (fun e => hne e.symm), Keeps.join hk k1 fun j hj => .inr (Nat.le_of_eq hj.symm), fx, e⟩
theorem need_nc {st : St} {p : Nat} {L : List Tok} {x : AV} {i d : Nat} (h : PS st p L x i d) (s : List UInt8) : NC 60 [.mp p 0, .str s] st p L x d (needT s (L.drop i)) (needR s (L.drop i)) := by
  obtain ⟨s0, es0, g0, h0, k0, hne, hro, n0⟩ := res_var h
  obtain ⟨s1, k1, c1⟩ := call_is h0 (shut_strs [s] (by simp))
  rw [isAny_one] at c1
  have c1 : ∀ {β : Type} (K : Kv β), callS (orc vE) 38 [.mp p 0, .sl 1 [.str s] .shut] s0 K = K (.bool (isS s (L.drop i))) s1 ⟨[], .all s0 s1⟩ := fun K => c1 K
  have h1 := h0.keeps k1 (fun f => f)
  have g1 := k1.old _ _ (fun f => f) g0
  unfold needT needR
  cases hb : isS s (L.drop i) with
  | true =>
    rw [hb] at c1
    obtain ⟨k, tk, tx, y, s2, i2, hn, h2, hr2, k2, c2⟩ := call_take h1
    have g2 := k2.of_ne hne g1
    obtain ⟨s3, g3, h3, k3, fx, e3⟩ := res_put g2 rfl h2 hne (((k0.trans k1).weak fun _ f => f.elim).trans k2) hro (k : Int) (tk : Int) tx y
    refine ⟨_, s3, i2, wide_of ((w60_eq _ _ _).trans ?_), hn.vn, h3, hr2, k3⟩
    simp only [w60, asS_str, letSt_eq, es0, c1, asB_bool, ifB_true, c2, unA_agg, unc_cons, asI_int, un0_nil, hn.asOne, e3, loadS_mp g3, List.drop_zero, takeO4, bindO_ok]
  | false =>
    rw [hb] at c1
    obtain ⟨s3, g3, h3, k3, fx, e3⟩ := res_put g1 rfl h1 hne ((k0.trans k1).weak fun _ f => f.elim) hro 2 0 s .nils
    refine ⟨_, s3, i, wide_of ((w60_eq _ _ _).trans ?_), (nd_missing s).vn, h3, rfl, k3⟩
    simp only [w60, asS_str, letSt_eq, es0, c1, asB_bool, ifB_false, call_missing, unA_agg, unc_cons, asI_int, un0_nil, asOne_nils, e3, loadS_mp g3, List.drop_zero, takeO4, bindO_ok]
    rfl
def kindB (pat : Bool) : Nat := if pat then 5 else 6
def signB (pat : Bool) : List UInt8 := if pat then sAny else sOpen
theorem nat_beq (a b : Nat) : ((a : Int) == (b : Int)) = (a == b) := by
  by_cases h : a = b
  · rw [h]; simp
  · rw [beq_eq_false_iff_ne.2 h, beq_eq_false_iff_ne.2 (show ¬ (a : Int) = (b : Int) by omega)]
theorem begins_ok {st : St} {p : Nat} {L : List Tok} {x : AV} {i d : Nat} (h : PS st p L x i d) (pat : Bool) :
    ∃ st', (orc vE).wide 58 [.mp p 0, .int .u8 (kindB pat : Int), .str (signB pat)] st = some (.bool (begins pat (L.drop i)), st') ∧ Keeps st st' (fun _ => False) := by
  obtain ⟨s1, k1, c1⟩ := call_next h
  have ht : nx (L.drop i) = nx (L.drop i) := rfl
  generalize hT : nx (L.drop i) = t at c1 ht
  obtain ⟨s2, g2, k2, fx2, e2⟩ := lvT s1 t.1 t.2 (PS.ro_keeps k1 h.ro_h)
  have h2 := h.keeps (k1.trans k2) (fun f => f)
  obtain ⟨s3, k3, c3⟩ := call_is h2 (shut_strs [sTrue, sFalse, sOpen, sOpenL, signB pat] (by simp))
  have c3 : ∀ {β : Type} (K : Kv β), callS (orc vE) 38 [.mp p 0, .sl 1 [.str [116, 114, 117, 101], .str [102, 97, 108, 115, 101], .str [40], .str [91], .str (signB pat)] .shut] s2 K = K (.bool (isAny [sTrue, sFalse, sOpen, sOpenL, signB pat] (L.drop i))) s3 ⟨[], .all s2 s3⟩ := fun K => c3 K
  have e4 : ((t.1 : Int) == 4) = (t.1 == 4) := nat_beq t.1 4
  have e5 : ((t.1 : Int) == 5) = (t.1 == 5) := nat_beq t.1 5
  have e7 : ((t.1 : Int) == 7) = (t.1 == 7) := nat_beq t.1 7
  have e9 : ((t.1 : Int) == 9) = (t.1 == 9) := nat_beq t.1 9
  have ek := nat_beq t.1 (kindB pat)
  have hb : begins pat (L.drop i) = (t.1 == 4 || t.1 == 5 || t.1 == 7 || t.1 == 9 || t.1 == kindB pat || isAny [sTrue, sFalse, sOpen, sOpenL, signB pat] (L.drop i)) := by
    unfold begins
    rw [hT]
    rfl
  rw [hb]
  by_cases hk : (t.1 == 4 || t.1 == 5 || t.1 == 7 || t.1 == 9 || t.1 == kindB pat) = true
  · refine ⟨s2, wide_of ((w58_eq _ _ _ _).trans ?_), k1.trans k2⟩
    rw [hk, Bool.true_or]
    simp only [w58, asI_int, asS_str, c1, unT_tup, nthS_zero, nthS_one, unA_agg, unc_cons, un0_nil, letSt_eq, e2, loadS_mp g2, List.drop_zero, takeO_one, bindO_ok, e4, e5, e7, e9, ek]
    cases h4 : t.1 == 4 <;> simp only [h4, ifB_true, ifB_false, bindO_ok, unc_cons, asB_bool, un0_nil]
    cases h5 : t.1 == 5 <;> simp only [h5, ifB_true, ifB_false, bindO_ok, unc_cons, asB_bool, un0_nil]
    cases h7 : t.1 == 7 <;> simp only [h7, ifB_true, ifB_false, bindO_ok, unc_cons, asB_bool, un0_nil]
    cases h9 : t.1 == 9 <;> simp only [h9, ifB_true, ifB_false, bindO_ok, unc_cons, asB_bool, un0_nil]
    simp only [h4, h5, h7, h9, Bool.false_or] at hk
    simp only [hk, ifB_true]
  · have hk : (t.1 == 4 || t.1 == 5 || t.1 == 7 || t.1 == 9 || t.1 == kindB pat) = false := by simpa using hk
    refine ⟨s3, wide_of ((w58_eq _ _ _ _).trans ?_), (k1.trans k2).trans k3⟩
    rw [hk, Bool.false_or]
    simp only [Bool.or_eq_false_iff] at hk
    obtain ⟨⟨⟨⟨h4, h5⟩, h7⟩, h9⟩, h10⟩ := hk
    simp only [w58, asI_int, asS_str, c1, unT_tup, nthS_zero, nthS_one, unA_agg, unc_cons, un0_nil, letSt_eq, e2, loadS_mp g2, List.drop_zero, takeO_one, bindO_ok, e4, e5, e7, e9, ek, h4, h5, h7, h9, h10, ifB_false, asB_bool, c3]
theorem call_begins {st : St} {p : Nat} {L : List Tok} {x : AV} {i d : Nat} (h : PS st p L x i d) (pat : Bool) :
    ∃ st', Keeps st st' (fun _ => False) ∧ ∀ {β : Type} (K : Kv β), callS (orc vE) 58 [.mp p 0, .int .u8 (kindB pat : Int), .str (signB pat)] st K = K (.bool (begins pat (L.drop i))) st' ⟨[], .all st st'⟩ := by
  obtain ⟨st', e, k⟩ := begins_ok h pat
  exact ⟨st', k, fun K => callS_wide (E := vE) K rfl rfl e⟩
end Go.Proofs.YtkodpnfdmgbfnaaGreatDoor.Vm
/- A parser at work: its place, a function's variables, slices that own their ends; steps. -/
set_option maxRecDepth 100000
set_option linter.unusedSimpArgs false
namespace Go.Proofs.YtkodpnfdmgbfnaaGreatDoor.Vm
open Go Go.VM Go.Proofs Go.Lex Go.Parse

abbrev ND : TypeId := 27
def unN {β : Type} (v : AV) (K : Int → Int → List UInt8 → AV → Option β) : Option β := unA v fun l => unc l fun v1 l => asI .u8 v1 fun a => unc l fun v2 l => asI .u8 v2 fun b => unc l fun v3 l => asS v3 fun s => unc l fun v4 l => un0 l (K a b s v4)
theorem unN_agg {β : Type} (a b : Int) (s : List UInt8) (y : AV) (K : Int → Int → List UInt8 → AV → Option β) : unN (.agg [.int .u8 a, .int .u8 b, .str s, y]) K = K a b s y := by
  simp only [unN, unA_agg, unc_cons, asI_int, asS_str, un0_nil]
/-- A parser at these tokens. -/
def Pz (PT : TypeId) (st : St) (p : Nat) (L : List Tok) (x : AV) (d : Nat) (r : List Tok) : Prop := ∃ i, PSg PT st p L x i d ∧ L.drop i = r
theorem Pz.keeps {PT : TypeId} {st st' : St} {p : Nat} {L : List Tok} {x : AV} {d : Nat} {r : List Tok} {but : Nat → Prop} (h : Pz PT st p L x d r) (k : Keeps st st' but) (hp : ¬ but p) : Pz PT st' p L x d r := by
  obtain ⟨i, h, e⟩ := h
  exact ⟨i, h.keeps k hp, e⟩
abbrev Vr := Nat × TypeId × List AV
structure Wd (PT : TypeId) (st0 st : St) (p : Nat) (L : List Tok) (x : AV) (d : Nat) (r : List Tok) (l : List Vr) (os : List (AV × List AV)) : Prop where
  pz : Pz PT st p L x d r
  k : Keeps st0 st (· = p)
  v : ∀ q ∈ l, st.get q.1 = .ok (.cells q.2.1 q.2.2) ∧ st0.h ≤ q.1
  nd : (l.map (·.1)).Nodup
  o : ∀ q ∈ os, Own st 4 ND q.1 q.2 ∧ ∀ j, ownerOf q.1 j → st0.h ≤ j
  od : os.Pairwise fun a b => ∀ j, ownerOf a.1 j → ¬ ownerOf b.1 j
  p0 : p < st0.h
  ro0 : st0.ro ≤ st0.h
section
variable {PT : TypeId} {st0 st st' : St} {p : Nat} {L : List Tok} {x : AV} {d d' : Nat} {r r' : List Tok} {l l1 l2 : List Vr} {os : List (AV × List AV)}
theorem Wd.start {i : Nat} (h : PSg PT st p L x i d) : Wd PT st st p L x d (L.drop i) [] [] :=
  ⟨⟨i, h, rfl⟩, Keeps.refl _ _, (fun _ h => by cases h), List.nodup_nil, (fun _ h => by cases h), List.Pairwise.nil, h.lt, h.ro_h⟩
theorem Wd.begin (h : Pz PT st p L x d r) : Wd PT st st p L x d r [] [] := by
  obtain ⟨i, h, rfl⟩ := h
  exact Wd.start h
theorem Wd.ro (w : Wd PT st0 st p L x d r l os) : st.ro ≤ st.h := PS.ro_keeps w.k w.ro0
theorem Wd.h (w : Wd PT st0 st p L x d r l os) : st0.h ≤ st.h := w.k.h
theorem Wd.get (w : Wd PT st0 st p L x d r l os) {a : Nat} {t : TypeId} {cs : List AV} (h : (a, t, cs) ∈ l) : st.get a = .ok (.cells t cs) := (w.v _ h).1
theorem Wd.ne (w : Wd PT st0 st p L x d r l os) {a : Nat} {t : TypeId} {cs : List AV} (h : (a, t, cs) ∈ l) : a ≠ p := by
  have := (w.v _ h).2
  have := w.p0
  simp only at *
  omega
theorem Wd.roa (w : Wd PT st0 st p L x d r l os) {a : Nat} {t : TypeId} {cs : List AV} (h : (a, t, cs) ∈ l) : st.ro ≤ a := by
  have h1 := (w.v _ h).2
  have h2 := w.ro0
  rw [w.k.ro]
  exact Nat.le_trans h2 h1
theorem own_lt {v : AV} {es : List AV} {j : Nat} {z : Nat} {t : TypeId} (h : Own st z t v es) (hj : ownerOf v j) : j < st.h ∧ ∃ n e, st.get j = .ok (.tok n e) := by
  obtain ⟨z', es', rfl⟩ := hj
  rcases h.2.2 with ⟨h | h, _⟩ | h | ⟨k, h, hg, _⟩
  · cases h
  · cases h
  · cases h
  · cases h
    exact ⟨(St.get_ok.1 hg).1, _, _, hg⟩
/-- What else may happen: what is kept but for one place that is none of these. -/
theorem Wd.keeps (w : Wd PT st0 st p L x d r l os) {but : Nat → Prop} (k : Keeps st st' but) (hb : ∀ j, but j → j = p ∨ st.h ≤ j) (pz : Pz PT st' p L x d' r') : Wd PT st0 st' p L x d' r' l os where
  pz := pz
  k := Keeps.join w.k k fun j hj => by
    rcases hb j hj with h | h
    · exact .inl h
    · exact .inr (Nat.le_trans w.h h)
  v := fun q hq => ⟨k.old _ _ (fun f => by
    have h1 := (St.get_ok.1 (w.v q hq).1).1
    have h2 := (w.v q hq).2
    have h3 := w.p0
    rcases hb _ f with h | h <;> omega) (w.v q hq).1, (w.v q hq).2⟩
  nd := w.nd
  o := fun q hq => ⟨own_keep (w.o q hq).1 k fun j hj f => by
    obtain ⟨h1, n, e, hg⟩ := own_lt (w.o q hq).1 hj
    have h2 := (w.o q hq).2 j hj
    have h3 := w.p0
    rcases hb _ f with h | h <;> omega, (w.o q hq).2⟩
  od := w.od
  p0 := w.p0
  ro0 := w.ro0
theorem Wd.quiet (w : Wd PT st0 st p L x d r l os) (k : Keeps st st' (fun _ => False)) : Wd PT st0 st' p L x d r l os :=
  w.keeps k (fun _ f => f.elim) (w.pz.keeps k (fun f => f))
theorem Wd.move (w : Wd PT st0 st p L x d r l os) (k : Keeps st st' (· = p)) (pz : Pz PT st' p L x d' r') : Wd PT st0 st' p L x d' r' l os :=
  w.keeps k (fun _ e => .inl e) pz
theorem Wd.alloc (w : Wd PT st0 st p L x d r l os) (t : TypeId) (cs : List AV) : Wd PT st0 (st.add (.cells t cs)) p L x d r ((st.h, t, cs) :: l) os := by
  have w' := w.quiet (Keeps.add st (.cells t cs) _)
  refine ⟨w'.pz, w'.k, fun q hq => ?_, ?_, w'.o, w'.od, w.p0, w.ro0⟩
  · rcases List.mem_cons.1 hq with rfl | hq
    · exact ⟨St.get_add_new, w.h⟩
    · exact w'.v q hq
  · rw [List.map_cons, List.nodup_cons]
    refine ⟨fun hm => ?_, w.nd⟩
    obtain ⟨q, hq, e⟩ := List.mem_map.1 hm
    have h1 := (St.get_ok.1 (w.v q hq).1).1
    simp only at e
    omega
theorem Wd.putAt {a : Nat} {t t' : TypeId} {old : List AV} (w : Wd PT st0 st p L x d r (l1 ++ (a, t, old) :: l2) os) (cs : List AV) : Wd PT st0 (st.put a (.cells t' cs)) p L x d r (l1 ++ (a, t', cs) :: l2) os := by
  have hm : (a, t, old) ∈ l1 ++ (a, t, old) :: l2 := List.mem_append_right _ List.mem_cons_self
  have hg := w.get hm
  have hap := w.ne hm
  have k : Keeps st (st.put a (.cells t' cs)) (· = a) := Keeps.put rfl
  have hnd := w.nd
  rw [List.map_append, List.map_cons] at hnd
  refine ⟨w.pz.keeps k (fun e => hap e.symm), Keeps.join w.k k fun j hj => .inr (by have := (w.v _ hm).2; simp only at this; omega), fun q hq => ?_, by rw [List.map_append, List.map_cons]; exact hnd, fun q hq => ⟨(w.o q hq).1.put hg, (w.o q hq).2⟩, w.od, w.p0, w.ro0⟩
  have other : ∀ q ∈ l1 ++ (a, t, old) :: l2, q.1 ≠ a → (st.put a (.cells t' cs)).get q.1 = .ok (.cells q.2.1 q.2.2) ∧ st0.h ≤ q.1 := fun q hq hne =>
    ⟨k.old _ _ hne (w.v q hq).1, (w.v q hq).2⟩
  rcases List.mem_append.1 hq with hq | hq
  · refine other q (List.mem_append_left _ hq) fun e => ?_
    have := (List.nodup_append.1 hnd).2.2 q.1 (List.mem_map_of_mem hq) a List.mem_cons_self
    exact this e
  · rcases List.mem_cons.1 hq with rfl | hq
    · exact ⟨St.get_put_same (St.get_ok.1 hg).1, (w.v _ hm).2⟩
    · refine other q (List.mem_append_right _ (List.mem_cons_of_mem _ hq)) fun e => ?_
      have h1 := (List.nodup_cons.1 (List.nodup_append.1 hnd).2.1).1
      have h2 : q.1 ∈ l2.map (·.1) := List.mem_map_of_mem hq
      rw [e] at h2
      exact h1 h2
/-- A variable, written whole. -/
theorem Wd.store {a : Nat} {t : TypeId} {old : List AV} (l1 : List Vr) (w : Wd PT st0 st p L x d r (l1 ++ (a, t, old) :: l2) os) {z : Nat} (hz : old.length = z) (v : AV) (cs : List AV) (hc : cs.length = z) :
    ∃ st' fx, Wd PT st0 st' p L x d r (l1 ++ (a, t, cs) :: l2) os ∧ ∀ {β : Type} (K : Kv β), storeS (orc vE) z (.mp a 0) v cs st K = K VM.undef st' fx := by
  have hm : (a, t, old) ∈ l1 ++ (a, t, old) :: l2 := List.mem_append_right _ List.mem_cons_self
  exact ⟨st.put a (.cells t cs), ⟨[a], .wrote a (.cells t cs)⟩, w.putAt cs, fun K => by rw [storeS_at (w.get hm) hc (by omega) (w.roa hm), splice_all (by omega)]⟩
/-- A part of a variable, written. -/
theorem Wd.storeF {a : Nat} {t : TypeId} {old : List AV} (l1 : List Vr) (w : Wd PT st0 st p L x d r (l1 ++ (a, t, old) :: l2) os) (off : Nat) (v : AV) (hl : off + 1 ≤ old.length) :
    ∃ st' fx, Wd PT st0 st' p L x d r (l1 ++ (a, t, splice old off [v]) :: l2) os ∧ ∀ {β : Type} (K : Kv β), storeS (orc vE) 1 (.mp a off) v [v] st K = K VM.undef st' fx := by
  have hm : (a, t, old) ∈ l1 ++ (a, t, old) :: l2 := List.mem_append_right _ List.mem_cons_self
  exact ⟨st.put a (.cells t (splice old off [v])), ⟨[a], .wrote a (.cells t (splice old off [v]))⟩, w.putAt _, fun K => storeS_at (cs := [v]) (z := 1) (w.get hm) rfl hl (w.roa hm) K⟩
theorem Wd.sub {l' : List Vr} (w : Wd PT st0 st p L x d r l os) (h : List.Sublist l' l) : Wd PT st0 st p L x d r l' os :=
  ⟨w.pz, w.k, fun q hq => w.v q (h.subset hq), (h.map _).nodup w.nd, w.o, w.od, w.p0, w.ro0⟩
theorem Wd.drop {o : AV × List AV} (w : Wd PT st0 st p L x d r l (o :: os)) : Wd PT st0 st p L x d r l os :=
  ⟨w.pz, w.k, w.v, w.nd, fun q hq => w.o q (List.mem_cons_of_mem _ hq), (List.pairwise_cons.1 w.od).2, w.p0, w.ro0⟩
theorem Wd.loose {v : AV} {es : List AV} (w : Wd PT st0 st p L x d r l os) (h : Own st 4 ND v es) (hn : ∀ j, ¬ ownerOf v j) : Wd PT st0 st p L x d r l ((v, es) :: os) :=
  ⟨w.pz, w.k, w.v, w.nd, fun q hq => by
    rcases List.mem_cons.1 hq with rfl | hq
    · exact ⟨h, fun j hj => absurd hj (hn j)⟩
    · exact w.o q hq, List.pairwise_cons.2 ⟨fun _ _ j hj => absurd hj (hn j), w.od⟩, w.p0, w.ro0⟩
theorem Wd.nils (w : Wd PT st0 st p L x d r l os) : Wd PT st0 st p L x d r l ((.nils, []) :: os) := w.loose (Own.nils w.ro 4 ND) fun _ h => by obtain ⟨_, _, e⟩ := h; cases e
theorem Wd.shut (w : Wd PT st0 st p L x d r l os) {es : List AV} (h : es.length ≤ 1000) : Wd PT st0 st p L x d r l ((.sl 4 es .shut, es) :: os) := w.loose (Own.shut w.ro ND (by omega)) fun _ h => by obtain ⟨_, _, e⟩ := h; cases e
/-- An append. -/
theorem Wd.app {v : AV} {es : List AV} (w : Wd PT st0 st p L x d r l ((v, es) :: os)) (new : List AV) (hn : new ≠ []) (hl : es.length + new.length ≤ 1000000000) :
    ∃ v' st' fx, Wd PT st0 st' p L x d r l ((v', es ++ new) :: os) ∧ ∀ {β : Type} (K : Kv β), appS 4 56 ND v new st K = K v' st' fx := by
  have ho := w.o (v, es) List.mem_cons_self
  obtain ⟨v', s2, fx, e, o2, k2, f2⟩ := app_own (b := 56) (new := new) ho.1 hn (room_of (by simpa using hl) (by omega) (by omega))
  have hp : ¬ ownerOf v p := by
    obtain ⟨i, h, _⟩ := w.pz
    exact ho.1.not h.get
  refine ⟨v', s2, fx, ⟨w.pz.keeps k2 hp, Keeps.join w.k k2 fun j hj => .inr (ho.2 j hj), fun q hq => ⟨k2.old _ _ (ho.1.not (w.v q hq).1) (w.v q hq).1, (w.v q hq).2⟩, w.nd, fun q hq => ?_, ?_, w.p0, w.ro0⟩, fun K => appS_of e K⟩
  · rcases List.mem_cons.1 hq with rfl | hq
    · refine ⟨o2, fun j hj => ?_⟩
      rcases f2 j hj with h | h
      · exact ho.2 j h
      · exact Nat.le_trans w.h h
    · have hq' := w.o q (List.mem_cons_of_mem _ hq)
      exact ⟨own_keep hq'.1 k2 fun j hj f => (List.pairwise_cons.1 w.od).1 q hq j f hj, hq'.2⟩
  · refine List.pairwise_cons.2 ⟨fun q hq j hj hj' => ?_, (List.pairwise_cons.1 w.od).2⟩
    rcases f2 j hj with h | h
    · exact (List.pairwise_cons.1 w.od).1 q hq j h hj'
    · have := (own_lt (w.o q (List.mem_cons_of_mem _ hq)).1 hj').1
      omega
theorem Wd.isK {v : AV} {es : List AV} (w : Wd PT st0 st p L x d r l ((v, es) :: os)) : IsK v es := IsK.own (w.o (v, es) List.mem_cons_self).1
end
end Go.Proofs.YtkodpnfdmgbfnaaGreatDoor.Vm
/- Steps of a walk: what is left to do ends well. -/
set_option maxRecDepth 100000
set_option linter.unusedSimpArgs false
namespace Go.Proofs.YtkodpnfdmgbfnaaGreatDoor.Vm
open Go Go.VM Go.Proofs Go.Lex Go.Parse

section
variable {β : Type} {Q : β → Prop}
/-- A tree comes back, and the parser stands there. -/
def NQ (PT : TypeId) (st : St) (p : Nat) (L : List Tok) (x : AV) (d : Nat) (t : T) (r' : List Tok) : AV × St → Prop := fun b => VN t b.1 ∧ depT t ≤ 1000000000000000 ∧ Pz PT b.2 p L x d r' ∧ Keeps st b.2 (· = p)
abbrev NW (PT : TypeId) (F : FuncId) (args : List AV) (st : St) (p : Nat) (L : List Tok) (x : AV) (d : Nat) (t : T) (r' : List Tok) : Prop := Goes ((orc vE).wide F args st) (NQ PT st p L x d t r')
variable {PT : TypeId} {st0 st : St} {p : Nat} {L : List Tok} {x : AV} {d : Nat} {r r' : List Tok} {l l1 l2 : List Vr} {os : List (AV × List AV)} {t : T}
theorem _root_.Go.VM.Goes.node {F : FuncId} {args : List AV} (w : Wd PT st0 st p L x d r l os) (hc : NW PT F args st p L x d t r') (h1 : vE.isLook F = false) (h2 : (bares (args.map strip) && !vE.full F) = false) {K : Int → Int → List UInt8 → AV → St → Fx → Option β}
    (g : ∀ (k tk : Nat) (tx : List UInt8) (y : AV) (s : St), Nd t k tk tx y → depT t ≤ 1000000000000000 → Wd PT st0 s p L x d r' l os → Goes (K (k : Int) (tk : Int) tx y s ⟨[], .all st s⟩) Q) :
    Goes (callS (orc vE) F args st fun v s fx => unN v fun a b c y => K a b c y s fx) Q :=
  Goes.callW hc h1 h2 fun v s h => by
    obtain ⟨hv, hd, hp, hk⟩ := h
    obtain ⟨k, tk, tx, y, rfl, hn⟩ := hv.cells
    exact Goes.step (unN_agg ..) (g k tk tx y s hn hd (w.move hk hp))
theorem _root_.Go.VM.Goes.alloc (w : Wd PT st0 st p L x d r l os) {ty : TypeId} {cs : List AV} {K : St → Option β} (g : ∀ s, s.h = st.h + 1 → Wd PT st0 s p L x d r ((st.h, ty, cs) :: l) os → Goes (K s) Q) : Goes (letSt (st.add (.cells ty cs)) K) Q :=
  g _ rfl (w.alloc ty cs)
theorem _root_.Go.VM.Goes.store (l1 : List Vr) {a : Nat} {ty : TypeId} {old : List AV} (w : Wd PT st0 st p L x d r (l1 ++ (a, ty, old) :: l2) os) {z : Nat} {v : AV} {cs : List AV} {K : Kv β}
    (g : ∀ s fx, Wd PT st0 s p L x d r (l1 ++ (a, ty, cs) :: l2) os → Goes (K VM.undef s fx) Q) (hz : old.length = z := by rfl) (hc : cs.length = z := by rfl) : Goes (storeS (orc vE) z (.mp a 0) v cs st K) Q := by
  obtain ⟨s, fx, w', e⟩ := w.store l1 hz v cs hc
  exact Goes.step (e K) (g s fx w')
theorem _root_.Go.VM.Goes.storeF (l1 : List Vr) {a : Nat} {ty : TypeId} {old : List AV} (w : Wd PT st0 st p L x d r (l1 ++ (a, ty, old) :: l2) os) {off : Nat} {v : AV} (hl : off + 1 ≤ old.length) {K : Kv β}
    (g : ∀ s fx, Wd PT st0 s p L x d r (l1 ++ (a, ty, splice old off [v]) :: l2) os → Goes (K VM.undef s fx) Q) : Goes (storeS (orc vE) 1 (.mp a off) v [v] st K) Q := by
  obtain ⟨s, fx, w', e⟩ := w.storeF l1 off v hl
  exact Goes.step (e K) (g s fx w')
theorem _root_.Go.VM.Goes.load1 {a : Nat} {ty : TypeId} {cs : List AV} (hm : (a, ty, cs) ∈ l) (w : Wd PT st0 st p L x d r l os) {o : Nat} {v : AV} {post : List AV} (hv : cs.drop o = v :: post) {K : AV → List Nat → Option β} (g : Goes (K v [a]) Q) : Goes (loadS 1 false (.mp a o) st K) Q := by
  refine Goes.step (loadS_mp (w.get hm) _ _ _ _) ?_
  rw [hv]
  exact g
theorem _root_.Go.VM.Goes.load4 {a : Nat} {ty : TypeId} {k tk : Int} {tx : List UInt8} {y : AV} (hm : (a, ty, [.int .u8 k, .int .u8 tk, .str tx, y]) ∈ l) (w : Wd PT st0 st p L x d r l os) {K : Int → Int → List UInt8 → AV → List Nat → Option β} (g : Goes (K k tk tx y [a]) Q) : Goes (loadS 4 true (.mp a 0) st fun v rd => unN v fun a b c y => K a b c y rd) Q := by
  refine Goes.step (loadS_mp (w.get hm) _ _ _ _) ?_
  exact Goes.step (unN_agg ..) g
theorem _root_.Go.VM.Goes.load2 {a : Nat} {ty : TypeId} {u v : AV} (hm : (a, ty, [u, v]) ∈ l) (w : Wd PT st0 st p L x d r l os) {K : AV → List Nat → Option β} (g : Goes (K (.agg [u, v]) [a]) Q) : Goes (loadS 2 true (.mp a 0) st K) Q :=
  Goes.step (loadS_mp (w.get hm) _ _ _ _) g
/-- The result, written and read. -/
theorem _root_.Go.VM.Goes.res (l1 : List Vr) {a : Nat} {old : List AV} (w : Wd PT st0 st p L x d r (l1 ++ (a, ND, old) :: l2) os) (ho : old.length = 4) {k tk : Nat} {tx : List UInt8} {y : AV} (hn : Nd t k tk tx y) (hd : depT t ≤ 1000000000000000) :
    Goes (asOne y (storeS (orc vE) 4 (.mp a 0) (.agg [.int .u8 (k : Int), .int .u8 (tk : Int), .str tx, y]) [.int .u8 (k : Int), .int .u8 (tk : Int), .str tx, y] st fun _ s _ => loadS 4 true (.mp a 0) s fun v _ => unN v fun n1 n2 s1 y => some (.agg [.int .u8 n1, .int .u8 n2, .str s1, y], s))) (NQ PT st0 p L x d t r) := by
  refine Goes.step (hn.asOne _) (Goes.store l1 w (fun s fx w' => ?_) ho)
  exact Goes.load4 (List.mem_append_right _ List.mem_cons_self) w' (Goes.some ⟨hn.vn, hd, w'.pz, w'.k⟩)
theorem _root_.Go.VM.Goes.res0 (l1 : List Vr) {a : Nat} {old : List AV} (w : Wd PT st0 st p L x d r (l1 ++ (a, ND, old) :: l2) os) (ho : old.length = 4) {k tk : Nat} {tx : List UInt8} {y : AV} (hn : Nd t k tk tx y) (hd : depT t ≤ 1000000000000000) :
    Goes (storeS (orc vE) 4 (.mp a 0) (.agg [.int .u8 (k : Int), .int .u8 (tk : Int), .str tx, y]) [.int .u8 (k : Int), .int .u8 (tk : Int), .str tx, y] st fun _ s _ => loadS 4 true (.mp a 0) s fun v _ => unN v fun n1 n2 s1 y => some (.agg [.int .u8 n1, .int .u8 n2, .str s1, y], s)) (NQ PT st0 p L x d t r) := by
  have h := Goes.res l1 w ho hn hd
  rw [hn.asOne] at h
  exact h
/-- One node, as an element. -/
theorem _root_.Go.VM.Goes.fit {k tk : Nat} {tx : List UInt8} {y : AV} (hn : Nd t k tk tx y) {K : AV → Option β} (g : ∀ y', IsN t (.agg [.int .u8 (k : Int), .int .u8 (tk : Int), .str tx, y']) → VM.one y' = true → (∀ {γ : Type} (K : AV → Option γ), fit1 y' K = K y') → Goes (K y') Q) : Goes (asOne y (fit1 y K)) Q := by
  obtain ⟨l, es, rfl, hk, hns⟩ := hn.ex
  obtain ⟨y', hx, hf⟩ := hk.fit
  refine Goes.step (hk.asOne _) (Goes.step (hf K) (g y' ?_ hx.one fun K => hx.fit1 K))
  simp only [IsN]
  exact ⟨y', es, rfl, hx, hns⟩
theorem _root_.Go.VM.Goes.two {k tk : Nat} {tx : List UInt8} {y : AV} (hn : Nd t k tk tx y) {e : Option β} (g : Goes e Q) : Goes (asOne y e) Q := Goes.step (hn.asOne e) g
/-- An append of one. -/
theorem _root_.Go.VM.Goes.app {v : AV} {es new : List AV} (w : Wd PT st0 st p L x d r l ((v, es) :: os)) (hn : new ≠ []) (hl : es.length + new.length ≤ 1000000000) {K : Kv β} (g : ∀ v' s fx, VM.one v' = true → Wd PT st0 s p L x d r l ((v', es ++ new) :: os) → Goes (K v' s fx) Q) : Goes (appS 4 56 ND v new st K) Q := by
  obtain ⟨v', s, fx, w', e⟩ := w.app new hn hl
  exact Goes.step (e K) (g v' s fx w'.isK.one w')
/-- What stands in a node's variable reads the same behind a call. -/
theorem Wd.same {a : Nat} {s : St} {k tk : Int} {tx : List UInt8} {v : AV} {es : List AV} {ts : List T} (w : Wd PT st0 st p L x d r l os) (w' : Wd PT st0 s p L x d r' l os) (hm : (a, ND, [.int .u8 k, .int .u8 tk, .str tx, v]) ∈ l) (hk : IsK v es) (hn : IsNs ts es) (hd : depL ts ≤ 1000000000000000) : apart ⟨[a], .kept⟩ ⟨[], .all st s⟩ = true := by
  have hv : Rf (2 * depL ts + 1) v := by
    have he := IsNs.rf hn
    rcases hk with hx | ⟨_, k, rfl⟩
    · rcases hx.2 with ⟨rfl | rfl, rfl⟩ | rfl | rfl
      · exact rf_nils.mono (by omega)
      · exact rf_es.mono (by omega)
      · exact rf_sl he
      · exact rf_sl he
    · exact rf_sl he
  refine apart_all (sameAt_of (w.get hm) (w'.get hm) (d := 2 * depL ts + 1) (fun c hc => ?_) (by omega))
  simp only [List.mem_cons, List.mem_nil_iff, or_false] at hc
  rcases hc with rfl | rfl | rfl | rfl
  · exact (rf_int _ _).mono (by omega)
  · exact (rf_int _ _).mono (by omega)
  · exact (rf_str _).mono (by omega)
  · exact hv
/-- The same, for a whole node. -/
theorem Wd.sameN {a : Nat} {s : St} {k tk : Nat} {tx : List UInt8} {v : AV} (w : Wd PT st0 st p L x d r l os) (w' : Wd PT st0 s p L x d r' l os) (hm : (a, ND, [.int .u8 (k : Int), .int .u8 (tk : Int), .str tx, v]) ∈ l) (hn : Nd t k tk tx v) (hd : depT t ≤ 1000000000000000) : apart ⟨[a], .kept⟩ ⟨[], .all st s⟩ = true := by
  obtain ⟨ts, es, rfl, hk, hns⟩ := hn.ex
  simp only [depT] at hd
  exact w.same w' hm hk hns (by omega)
/-- A call's tree is appended to the Kids of a variable. -/
theorem _root_.Go.VM.Goes.grow (l1 : List Vr) {F : FuncId} {args : List AV} {a : Nat} {k tk : Int} {tx : List UInt8} {v : AV} {es : List AV} {ts : List T}
    (w : Wd PT st0 st p L x d r (l1 ++ (a, ND, [.int .u8 k, .int .u8 tk, .str tx, v]) :: l2) ((v, es) :: os)) (hc : NW PT F args st p L x d t r') (h1 : vE.isLook F = false) (h2 : (bares (args.map strip) && !vE.full F) = false)
    (hns : IsNs ts es) (hdep : depL ts ≤ 1000000000000000) (hl : ts.length ≤ 100000000) {K : St → Option β}
    (g : ∀ v' e s, IsNs (ts ++ [t]) (es ++ [e]) → depL (ts ++ [t]) ≤ 1000000000000000 → Wd PT st0 s p L x d r' (l1 ++ (a, ND, [.int .u8 k, .int .u8 tk, .str tx, v']) :: l2) ((v', es ++ [e]) :: os) → Goes (K s) Q) :
    Goes (loadS 1 false (.mp a 3) st fun v rd => callS (orc vE) F args st fun u s x => unN u fun n1 n2 tx y => chk (apart ⟨rd, .kept⟩ x && (apart ⟨[], .kept⟩ x && true)) (asOne y (asOne y (fit1 y fun y => asOne y (fit1 y fun y => appS 4 56 ND v [.agg [.int .u8 n1, .int .u8 n2, .str tx, y]] s fun v s _ => asOne v (asOne v (storeS (orc vE) 1 (.mp a 3) v [v] s fun _ s _ => K s))))))) Q := by
  have hm : (a, ND, [AV.int .u8 k, .int .u8 tk, .str tx, v]) ∈ l1 ++ (a, ND, [AV.int .u8 k, .int .u8 tk, .str tx, v]) :: l2 := List.mem_append_right _ List.mem_cons_self
  refine Goes.load1 hm w rfl (Goes.node w hc h1 h2 fun k' tk' tx' y s hn hd w' => ?_)
  have hap := w.same w' hm w.isK hns hdep
  refine Goes.step (chk_of (by rw [hap]; rfl) _) (Goes.two hn (Goes.fit hn fun y' hN h1 hf => Goes.one h1 (Goes.step (hf _) (Goes.app w' (by simp) (by rw [IsNs.len hns]; simp; omega) fun v' s' fx ho w2 => ?_))))
  refine Goes.one ho (Goes.one ho (Goes.storeF l1 w2 (Nat.le_of_ble_eq_true rfl) fun s3 fx3 w3 => ?_))
  exact g v' _ s3 (IsNs.app hns (IsNs.cons hN IsNs.nil)) (by rw [depL_app, depL_one]; omega) w3
end
end Go.Proofs.YtkodpnfdmgbfnaaGreatDoor.Vm
/- The program's parser: what is asked of it; one deeper. -/
set_option maxRecDepth 100000
set_option linter.unusedSimpArgs false
namespace Go.Proofs.YtkodpnfdmgbfnaaGreatDoor.Vm
open Go Go.VM Go.Proofs Go.Lex Go.Parse

abbrev PP : TypeId := 51
section
variable {β : Type} {Q : β → Prop} {st0 st : St} {p : Nat} {L : List Tok} {x : AV} {d d' : Nat} {r r' : List Tok} {l l1 l2 : List Vr} {os : List (AV × List AV)} {t : T}
theorem _root_.Go.VM.Goes.is (ss : List (List UInt8)) (hs : ss.length ≤ 1000) (w : Wd PP st0 st p L x d r l os) {K : Bool → St → Fx → Option β} (g : ∀ s, Wd PP st0 s p L x d r l os → Goes (K (isAny ss r) s ⟨[], .all st s⟩) Q) :
    Goes (callS (orc vE) 38 [.mp p 0, .sl 1 (ss.map AV.str) .shut] st fun v s fx => asB v fun b => K b s fx) Q := by
  obtain ⟨i, h, rfl⟩ := w.pz
  obtain ⟨s, k, e⟩ := call_is h (shut_strs ss hs)
  exact Goes.step (e _) (g s (w.quiet k))
theorem _root_.Go.VM.Goes.is1 {s0 : List UInt8} (w : Wd PP st0 st p L x d r l os) {K : Bool → St → Fx → Option β} (g : ∀ s, Wd PP st0 s p L x d r l os → Goes (K (isS s0 r) s ⟨[], .all st s⟩) Q) :
    Goes (callS (orc vE) 38 [.mp p 0, .sl 1 [.str s0] .shut] st fun v s fx => asB v fun b => K b s fx) Q :=
  Goes.is [s0] (by simp) w fun s w' => by rw [isAny_one]; exact g s w'
theorem _root_.Go.VM.Goes.begins (pat : Bool) (w : Wd PP st0 st p L x d r l os) {K : Bool → St → Fx → Option β} (g : ∀ s, Wd PP st0 s p L x d r l os → Goes (K (begins pat r) s ⟨[], .all st s⟩) Q) :
    Goes (callS (orc vE) 58 [.mp p 0, .int .u8 (kindB pat : Int), .str (signB pat)] st fun v s fx => asB v fun b => K b s fx) Q := by
  obtain ⟨i, h, rfl⟩ := w.pz
  obtain ⟨s, k, e⟩ := call_begins h pat
  exact Goes.step (e _) (g s (w.quiet k))
/-- The token that is next, in a variable. -/
theorem _root_.Go.VM.Goes.next (w : Wd PP st0 st p L x d r l os) {K : St → St → Option β} (g : ∀ s s', Wd PP st0 s' p L x d r ((s.h, 24, [.int .u8 ((nx r).1 : Int), .str (nx r).2]) :: l) os → Goes (K s s') Q) :
    Goes (callS (orc vE) 37 [.mp p 0] st fun v s _ => unT v fun vs => nthS vs 0 fun u => unA u fun cs => unc cs fun a cs => asI .u8 a fun n => unc cs fun b cs => asS b fun tx => un0 cs (unT v fun vs => nthS vs 1 fun u => asI .i64 u fun _ => letSt (St.add s (.cells 24 [.int .u8 0, .str []])) fun s1 => storeS (orc vE) 2 (.mp (St.h s) 0) (.agg [.int .u8 n, .str tx]) [.int .u8 n, .str tx] s1 fun _ s' _ => K s s')) Q := by
  obtain ⟨i, h, rfl⟩ := w.pz
  obtain ⟨s, k, e⟩ := call_next h
  refine Goes.step (e _) ?_
  simp only [unT_tup, nthS_zero, nthS_one, unA_agg, unc_cons, asI_int, asS_str, un0_nil]
  refine Goes.alloc (w.quiet k) fun s1 _ w1 => ?_
  exact Goes.store [] w1 fun s2 fx w2 => g s s2 w2
theorem take_nw (h : Pz PP st p L x d r) : NW PP 39 [.mp p 0] st p L x d (takeT r) (takeR r) := by
  obtain ⟨i, h, rfl⟩ := h
  obtain ⟨v, s, e, hv, hp, hk⟩ := take_ok h
  exact ⟨(v, s), e, hv, Nat.le_trans (dep_take _) (by omega), ⟨_, hp, (takeR_drop L i).symm⟩, hk⟩
theorem need_nw (h : Pz PP st p L x d r) (s : List UInt8) : NW PP 60 [.mp p 0, .str s] st p L x d (needT s r) (needR s r) := by
  obtain ⟨i, h, rfl⟩ := h
  obtain ⟨v, s', i', e, hv, hp, hr, hk⟩ := need_nc h s
  exact ⟨(v, s'), e, hv, Nat.le_trans (dep_need _ _) (by omega), ⟨_, hp, hr⟩, hk⟩
theorem _root_.Go.VM.Goes.take (w : Wd PP st0 st p L x d r l os) {K : Int → Int → List UInt8 → AV → St → Fx → Option β}
    (g : ∀ (k tk : Nat) (tx : List UInt8) (y : AV) (s : St), Nd (takeT r) k tk tx y → depT (takeT r) ≤ 1000000000000000 → Wd PP st0 s p L x d (takeR r) l os → Goes (K (k : Int) (tk : Int) tx y s ⟨[], .all st s⟩) Q) :
    Goes (callS (orc vE) 39 [.mp p 0] st fun v s fx => unN v fun a b c y => K a b c y s fx) Q := Goes.node w (take_nw w.pz) rfl rfl g
theorem _root_.Go.VM.Goes.need (w : Wd PP st0 st p L x d r l os) {s0 : List UInt8} {K : Int → Int → List UInt8 → AV → St → Fx → Option β}
    (g : ∀ (k tk : Nat) (tx : List UInt8) (y : AV) (s : St), Nd (needT s0 r) k tk tx y → depT (needT s0 r) ≤ 1000000000000000 → Wd PP st0 s p L x d (needR s0 r) l os → Goes (K (k : Int) (tk : Int) tx y s ⟨[], .all st s⟩) Q) :
    Goes (callS (orc vE) 60 [.mp p 0, .str s0] st fun v s fx => unN v fun a b c y => K a b c y s fx) Q := Goes.node w (need_nw w.pz s0) rfl rfl g
theorem _root_.Go.VM.Goes.fld {i o n : Nat} {K : AV → Option β} (g : Goes (K (.mp i (o + n))) Q) : Goes (chk (notNil (.mp i o)) (fldA n (.mp i o) K)) Q := g
theorem _root_.Go.VM.Goes.deepL {PT : TypeId} (w : Wd PT st0 st p L x d r l os) {K : AV → List Nat → Option β} (g : Goes (K (.int .i64 (d : Int)) [p]) Q) : Goes (loadS 1 false (.mp p 2) st K) Q := by
  obtain ⟨i, h, rfl⟩ := w.pz
  exact Goes.step (loadS_mp h.get _ _ _ _) g
theorem _root_.Go.VM.Goes.deep {PT : TypeId} (d' : Nat) (w : Wd PT st0 st p L x d r l os) {K : Kv β} (g : ∀ s fx, Wd PT st0 s p L x d' r l os → Goes (K VM.undef s fx) Q) : Goes (storeS (orc vE) 1 (.mp p 2) (.int .i64 (d' : Int)) [.int .i64 (d' : Int)] st K) Q := by
  obtain ⟨i, h, rfl⟩ := w.pz
  refine Goes.step (storeS_at (cs := [.int .i64 (d' : Int)]) (z := 1) (off := 2) h.get rfl (Nat.le_of_ble_eq_true rfl) h.ro K) (g _ _ ?_)
  have k : Keeps st (st.put p (.cells PT (splice [x, .int .i64 (i : Int), .int .i64 (d : Int)] 2 [.int .i64 (d' : Int)]))) (· = p) := Keeps.put rfl
  exact w.move k ⟨i, ⟨St.get_put_same (St.get_ok.1 h.get).1, h.sl, h.le, h.len, by rw [k.ro]; exact h.ro⟩, rfl⟩
theorem nd_lit {k : Nat} {es : List AV} {ts : List T} (h : IsNs ts es) (hl : es.length ≤ 1000) : Nd (node k ts) k 0 [] (.sl 4 es .shut) := ⟨⟨ts, es, rfl, .inl (IsSl.shut (by omega)), h⟩⟩
theorem isNs1 {t : T} {e : AV} (h : IsN t e) : IsNs [t] [e] := IsNs.cons h IsNs.nil
theorem isNs2 {t u : T} {e f : AV} (h : IsN t e) (h' : IsN u f) : IsNs [t, u] [e, f] := IsNs.cons h (isNs1 h')
theorem isNs3 {t u v : T} {e f g : AV} (h : IsN t e) (h' : IsN u f) (h'' : IsN v g) : IsNs [t, u, v] [e, f, g] := IsNs.cons h (isNs2 h' h'')
/-- Too deep. -/
theorem within_deep (f : AV) (s0 : List UInt8) (h : Pz PP st p L x 64 r) : NW PP 91 [.mp p 0, .str s0, f] st p L x 64 (deepT s0 r) (deepR r) := by
  refine Goes.wide (Goes.step (w91_eq _ _ _ _) ?_)
  unfold w91
  refine Goes.step (asS_str _ _) (Goes.alloc (Wd.begin h) fun s1 _ w => ?_)
  refine Goes.fld (Goes.deepL w ?_)
  refine Goes.step (asI_int _ _ _) ?_
  refine Goes.next w fun s2 s3 w => ?_
  refine Goes.load1 (List.mem_cons_self) w rfl (Goes.step (asI_int _ _ _) ?_)
  unfold deepT deepR
  by_cases h0 : (nx r).1 = 0
  · rw [if_pos h0, if_pos h0, show (((nx r).1 : Int) == 0) = true by rw [h0]; rfl]
    refine Goes.step (ifB_true _ _) (Goes.step (call_missing _ _ _) ?_)
    refine Goes.res [_] (old := [.int .u8 0, .int .u8 0, .str [], .nils]) w rfl (nd_missing s0) ?_
    rw [dep_missing]; omega
  · rw [if_neg h0, if_neg h0, show (((nx r).1 : Int) == 0) = false from beq_eq_false_iff_ne.2 (by omega)]
    refine Goes.step (ifB_false _ _) (Goes.take w fun k tk tx y s hn hd w => ?_)
    refine Goes.two hn (Goes.fit hn fun y' hN _ _ => ?_)
    refine Goes.res0 [_] (old := [.int .u8 0, .int .u8 0, .str [], .nils]) w rfl (nd_lit (isNs1 hN) (by simp)) ?_
    rw [dep_node, depL_one]
    have := dep_take r
    omega
/-- One deeper. -/
theorem within_ok {f : AV} {F : FuncId} {args : List AV} (s0 : List UInt8) (h : Pz PP st p L x d r) (hd : d < 64) (h1 : vE.isLook F = false) (h2 : (bares (args.map strip) && !vE.full F) = false)
    (hf : ∀ {β : Type} (s : St) (K : Kv β), callF (orc vE) (Sx.prim (sx vE 91)) f [] s K = callS (orc vE) F args s K)
    (hc : ∀ s, Keeps st s (· = p) → Pz PP s p L x (d + 1) r → NW PP F args s p L x (d + 1) t r') : NW PP 91 [.mp p 0, .str s0, f] st p L x d t r' := by
  refine Goes.wide (Goes.step (w91_eq _ _ _ _) ?_)
  unfold w91
  refine Goes.step (asS_str _ _) (Goes.alloc (Wd.begin h) fun s1 _ w => ?_)
  refine Goes.fld (Goes.deepL w ?_)
  refine Goes.step (asI_int _ _ _) ?_
  rw [show ((d : Int) == 64) = false from beq_eq_false_iff_ne.2 (by omega)]
  refine Goes.step (ifB_false _ _) (Goes.fld (Goes.deepL w ?_))
  refine Goes.step (asI_int _ _ _) ?_
  rw [letV_eq, wrapA1 (by omega)]
  refine Goes.fld (Goes.deep (d + 1) w fun s2 fx w => ?_)
  refine Goes.step (hf _ _) (Goes.node w (hc s2 w.k w.pz) h1 h2 fun k tk tx y s hn hd' w => ?_)
  refine Goes.alloc w fun s3 _ w => Goes.two hn ?_
  refine Goes.store [] w fun s4 fx w => ?_
  refine Goes.fld (Goes.deepL w ?_)
  refine Goes.step (asI_int _ _ _) ?_
  rw [letV_eq, show ((d + 1 : Nat) : Int) - 1 = ((d + 1 : Nat) : Int) - ((1 : Nat) : Int) from rfl, wrapS (by omega) (by omega), Nat.add_sub_cancel]
  refine Goes.fld (Goes.deep d w fun s5 fx w => ?_)
  refine Goes.load4 (List.mem_cons_self) w ?_
  exact Goes.res [_] (old := [.int .u8 0, .int .u8 0, .str [], .nils]) w rfl hn hd'
end
end Go.Proofs.YtkodpnfdmgbfnaaGreatDoor.Vm
/- The program's parser, by what is known of less fuel: expressions, patterns, brackets, atoms, arms. -/
set_option maxRecDepth 100000
set_option linter.unusedSimpArgs false
namespace Go.Proofs.YtkodpnfdmgbfnaaGreatDoor.Vm
open Go Go.VM Go.Proofs Go.Lex Go.Parse

def Doer (F : FuncId) (more : Nat → List AV) (job : Job) (n : Nat) : Prop := ∀ (st : St) (p : Nat) (L : List Tok) (x : AV) (d : Nat) (r : List Tok) (t : T) (r' : List Tok), Pz PP st p L x d r → d ≤ 64 → P n job d r = some ([t], r') → NW PP F (.mp p 0 :: more p) st p L x d t r'
def oneF (pat : Bool) : FuncId := match pat with | true => 88 | false => 61
def fnOf (pat : Bool) (p : Nat) : AV := .fn (.func (oneF pat)) [.mp p 0] []
/-- What a binding makes. -/
def BQ (PT : TypeId) (st : St) (p : Nat) (L : List Tok) (x : AV) (d : Nat) (ts : List T) (r' : List Tok) : AV × St → Prop := fun b => ∃ es, Own b.2 4 ND b.1 es ∧ (∀ j, ownerOf b.1 j → st.h ≤ j) ∧ IsNs ts es ∧ depL ts ≤ 1000000000000000 ∧ Pz PT b.2 p L x d r' ∧ Keeps st b.2 (· = p)
def Binder (n : Nat) : Prop := ∀ (st : St) (p : Nat) (L : List Tok) (x : AV) (d : Nat) (r : List Tok) (ts : List T) (r' : List Tok), Pz PP st p L x d r → d ≤ 64 → P n .binding d r = some (ts, r') → Goes ((orc vE).wide 40 [.mp p 0] st) (BQ PP st p L x d ts r')
structure IH (n : Nat) : Prop where
  expr : Doer 61 (fun _ => []) .expr n
  whole : Doer 92 (fun _ => []) .whole n
  level : ∀ k : Nat, k ≤ 7 → Doer 117 (fun _ => [.int .i64 (k : Int)]) (.level k) n
  neg : Doer 129 (fun _ => []) .neg n
  atom : ∀ pat, Doer 59 (fun _ => [.bool pat]) (.atom pat) n
  closed : ∀ list pat, Doer 90 (fun p => [.int .u8 (kindOf list pat : Int), .str (betw list), .str (endOf list), fnOf pat p]) (.closed list pat) n
  pattern : Doer 88 (fun _ => []) .pattern n
  arm : Doer 116 (fun _ => []) .arm n
  binding : Binder n
theorem dep_of {n : Nat} (hn : n ≤ 10000000) {job : Job} {d : Nat} {r : List Tok} {l : List T} {r' : List Tok} (h : P n job d r = some (l, r')) (ha : accL job = []) : depL l ≤ 100000020000000 := by
  have := P_dep n job d r l r' h
  rw [ha, depL_nil] at this
  have hq : n * n ≤ 10000000 * 10000000 := Nat.mul_le_mul hn hn
  omega
theorem dep_one {n : Nat} (hn : n ≤ 10000000) {job : Job} {d : Nat} {r : List Tok} {t : T} {r' : List Tok} (h : P n job d r = some ([t], r')) (ha : accL job = []) : depT t ≤ 100000020000000 := by
  have := dep_of hn h ha
  rwa [depL_one] at this
section
variable {β : Type} {Q : β → Prop} {st0 st : St} {p : Nat} {L : List Tok} {x : AV} {d d' : Nat} {r r' : List Tok} {l l1 l2 : List Vr} {os : List (AV × List AV)} {t : T}
abbrev z4 : List AV := [.int .u8 0, .int .u8 0, .str [], .nils]
theorem expr_step {n : Nat} (ih : IH n) : Doer 61 (fun _ => []) .expr (n + 1) := by
  intro st p L x d r t r' hp hd h
  simp only [P] at h
  refine Goes.wide (Goes.step (w61_eq _ _) ?_)
  unfold w61
  refine Goes.alloc (Wd.begin hp) fun s1 _ w => ?_
  split at h
  · rename_i hd
    subst hd
    cases h
    exact Goes.node w (within_deep _ _ w.pz) rfl rfl fun k tk tx y s hn hd w => Goes.res [] (old := z4) w rfl hn hd
  · exact Goes.node w (within_ok (F := 92) (args := [.mp p 0]) _ w.pz (by omega) rfl rfl (fun _ _ => rfl) fun s _ hp => ih.whole s p L x (d + 1) r t r' hp (by omega) h) rfl rfl fun k tk tx y s hn hd w => Goes.res [] (old := z4) w rfl hn hd
/-- A tree in a variable, and the result's one. -/
def Nv (PT : TypeId) (st0 s : St) (p : Nat) (L : List Tok) (x : AV) (d : Nat) (r : List Tok) (a b : Nat) (t : T) : Prop := ∃ (k tk : Nat) (tx : List UInt8) (y : AV), Wd PT st0 s p L x d r [(a, ND, [.int .u8 (k : Int), .int .u8 (tk : Int), .str tx, y]), (b, ND, z4)] [] ∧ Nd t k tk tx y
theorem Nv.fin {PT : TypeId} {s : St} {a b : Nat} (h : Nv PT st0 s p L x d r a b t) (hd : depT t ≤ 1000000000000000) :
    Goes (loadS 4 true (.mp a 0) s fun v _ => unN v fun n1 n2 tx y => asOne y (storeS (orc vE) 4 (.mp b 0) (.agg [.int .u8 n1, .int .u8 n2, .str tx, y]) [.int .u8 n1, .int .u8 n2, .str tx, y] s fun _ s _ => loadS 4 true (.mp b 0) s fun v _ => unN v fun n1 n2 tx y => some (.agg [.int .u8 n1, .int .u8 n2, .str tx, y], s))) (NQ PT st0 p L x d t r) := by
  obtain ⟨k, tk, tx, y, w, hn⟩ := h
  exact Goes.load4 (List.mem_cons_self) w (Goes.res [_] (old := z4) w rfl hn hd)
theorem sub2 {a b c : Vr} : List.Sublist [b, c] [a, b, c] := List.Sublist.cons _ (List.Sublist.refl _)
theorem eq_tf {b c : Bool} (h : b = c) {α : Type} (x y : Option α) : ifB b x y = ifB c x y := by rw [h]
/-- A pattern, where a variable holds the parser. -/
theorem pat1_ok {n : Nat} (ih : IH n) {a : Nat} (ha : st.get a = .ok (.cells 49 [.mp p 0])) (hap : a ≠ p) (hp : Pz PP st p L x d r) (hd : d ≤ 64)
    {r1 : List Tok} {u : T} (h1 : P n (.atom true) d r = some ([u], r1)) (h2 : if isS sCons r1 = true then ∃ v, P n .pattern d (takeR r1) = some ([v], r') ∧ t = node 16 [u, takeT r1, v] else t = u ∧ r' = r1)
    (hn : n ≤ 10000000) : NW PP 114 [.mp a 0] st p L x d t r' := by
  have hdu' := dep_one hn h1 rfl
  refine Goes.wide (Goes.step (w114_eq _ _) ?_)
  unfold w114
  have rd : ∀ {s : St} {β : Type} (K : AV → List Nat → Option β), Keeps st s (· = p) → loadS 1 false (.mp a 0) s K = K (.mp p 0) [a] := fun K k => loadS_mp (k.of_ne hap ha) _ _ _ _
  refine Goes.alloc (Wd.begin hp) fun s1 _ w => ?_
  refine Goes.step (rd _ w.k) (Goes.node w (ih.atom true _ p L x d r u r1 w.pz hd h1) rfl rfl fun k tk tx y s hnd hdu w => ?_)
  refine Goes.alloc w fun s3 _ w => Goes.two hnd ?_
  refine Goes.store [] w fun s4 fx w => ?_
  refine Goes.step (rd _ w.k) ?_
  refine Goes.is1 w fun s5 w => ?_
  cases hb : isS sCons r1 with
  | true =>
    rw [hb, if_pos rfl] at h2
    obtain ⟨v, h2, rfl⟩ := h2
    have hdv := dep_one hn h2 rfl
    have hdk := dep_take r1
    refine Goes.bind (R := fun c => ∃ s6, c = ([], s6) ∧ Nv PP st s6 p L x d r' s.h st.h (node 16 [u, takeT r1, v])) ?_ ?_
    · refine Goes.step (eq_tf (c := true) hb _ _) (Goes.step (ifB_true _ _) ?_)
      refine Goes.step (rd _ w.k) (Goes.take w fun k' tk' tx' y' s6 hn' hd' w => ?_)
      refine Goes.alloc w fun s7 _ w => Goes.two hn' ?_
      refine Goes.store [] w fun s8 fx w => ?_
      refine Goes.load4 (a := s.h) (List.mem_cons_of_mem _ List.mem_cons_self) w ?_
      refine Goes.load4 (List.mem_cons_self) w ?_
      refine Goes.step (rd _ w.k) (Goes.node w (ih.pattern _ p L x d _ v r' w.pz hd h2) rfl rfl fun k2 tk2 tx2 y2 s9 hn2 hd2 w9 => ?_)
      have a1 := w.sameN w9 (List.mem_cons_self) hn' hd'
      have a2 := w.sameN w9 (a := s.h) (List.mem_cons_of_mem _ List.mem_cons_self) hnd hdu
      refine Goes.step (chk_of (by rw [a1, a2]; rfl) _) ?_
      refine Goes.two hnd (Goes.two hn' (Goes.two hn2 (Goes.fit hnd fun z1 hN1 _ _ => Goes.fit hn' fun z2 hN2 _ _ => Goes.fit hn2 fun z3 hN3 _ _ => ?_)))
      refine Goes.store [_] w9 fun s10 fx w => ?_
      exact Goes.some ⟨s10, rfl, 16, 0, [], _, w.sub sub2, nd_lit (isNs3 hN1 hN2 hN3) (by simp)⟩
    · rintro c ⟨s6, rfl, h⟩
      refine Goes.step (un0_nil _) (h.fin ?_)
      rw [dep_node]
      simp only [depL_cons, depL_nil]
      omega
  | false =>
    rw [hb, if_neg (by simp)] at h2
    obtain ⟨rfl, rfl⟩ := h2
    refine Goes.bind (R := fun c => ∃ s6, c = ([], s6) ∧ Nv PP st s6 p L x d r' s.h st.h t) ?_ ?_
    · exact Goes.step (eq_tf (c := false) hb _ _) (Goes.step (ifB_false _ _) (Goes.some ⟨s5, rfl, k, tk, tx, y, w, hnd⟩))
    · rintro c ⟨s6, rfl, h⟩
      exact Goes.step (un0_nil _) (h.fin hdu)
theorem pattern_step {n : Nat} (ih : IH n) (hn : n ≤ 10000000) : Doer 88 (fun _ => []) .pattern (n + 1) := by
  intro st p L x d r t r' hp hd h
  simp only [P] at h
  refine Goes.wide (Goes.step (w88_eq _ _) ?_)
  unfold w88
  refine Goes.one rfl (Goes.one rfl ?_)
  refine Goes.alloc (Wd.begin hp) fun s1 _ w => ?_
  refine Goes.alloc w fun s2 _ w => ?_
  refine Goes.load1 (a := st.h) (List.mem_cons_of_mem _ List.mem_cons_self) w rfl ?_
  have hne : st.h ≠ p := w.ne (List.mem_cons_of_mem _ List.mem_cons_self)
  have hg := w.get (a := st.h) (List.mem_cons_of_mem _ List.mem_cons_self)
  split at h
  · rename_i hd
    subst hd
    cases h
    exact Goes.node w (within_deep _ _ w.pz) rfl rfl fun k tk tx y s hn hd w => Goes.res [] (old := z4) w rfl hn hd
  · obtain ⟨⟨a, r1⟩, e1, h⟩ := bind_some h
    obtain ⟨u, rfl⟩ := P_one _ _ _ _ _ _ e1 rfl
    refine Goes.node w (within_ok (F := 114) (args := [.mp st.h 0]) (t := t) (r' := r') _ w.pz (by omega) rfl rfl (fun _ _ => rfl) fun s k hp => ?_) rfl rfl fun k tk tx y s hn hd w => Goes.res [] (old := z4) w rfl hn hd
    refine pat1_ok ih (k.of_ne hne hg) hne hp (by omega) e1 ?_ hn
    dsimp only at h
    split at h
    · rename_i hb
      rw [if_pos hb]
      obtain ⟨⟨b, r2⟩, e2, h⟩ := bind_some h
      obtain ⟨v, rfl⟩ := P_one _ _ _ _ _ _ e2 rfl
      cases h
      exact ⟨v, e2, rfl⟩
    · rename_i hb
      rw [if_neg hb]
      cases h
      exact ⟨rfl, rfl⟩
end
end Go.Proofs.YtkodpnfdmgbfnaaGreatDoor.Vm
/- The program's parser, by what is known of less fuel: arms, brackets, atoms. -/
set_option maxRecDepth 100000
set_option linter.unusedSimpArgs false
namespace Go.Proofs.YtkodpnfdmgbfnaaGreatDoor.Vm
open Go Go.VM Go.Proofs Go.Lex Go.Parse
section
variable {β : Type} {Q : β → Prop} {st0 st : St} {p : Nat} {L : List Tok} {x : AV} {d d' : Nat} {r r' : List Tok} {l l1 l2 : List Vr} {os : List (AV × List AV)} {t : T}
theorem arm_step {n : Nat} (ih : IH n) (hn : n ≤ 10000000) : Doer 116 (fun _ => []) .arm (n + 1) := by
  intro st p L x d r t r' hp hd h
  simp only [P] at h
  obtain ⟨⟨a, r1⟩, e1, h⟩ := bind_some h
  obtain ⟨u, rfl⟩ := P_one _ _ _ _ _ _ e1 rfl
  obtain ⟨⟨b, r2⟩, e2, h⟩ := bind_some h
  obtain ⟨v, rfl⟩ := P_one _ _ _ _ _ _ e2 rfl
  cases h
  have hdu := dep_one hn e1 rfl
  have hdv := dep_one hn e2 rfl
  have hdk := dep_need sArrow r1
  refine Goes.wide (Goes.step (w116_eq _ _) ?_)
  unfold w116
  refine Goes.alloc (Wd.begin hp) fun s1 _ w => ?_
  refine Goes.node w (ih.pattern _ p L x d _ u r1 w.pz hd e1) rfl rfl fun k tk tx y s hnd hdu' w => ?_
  refine Goes.alloc w fun s3 _ w => Goes.two hnd ?_
  refine Goes.store [] w fun s4 fx w => ?_
  refine Goes.need w fun k' tk' tx' y' s6 hn' hd' w => ?_
  refine Goes.alloc w fun s7 _ w => Goes.two hn' ?_
  refine Goes.store [] w fun s8 fx w => ?_
  refine Goes.load4 (a := s.h) (List.mem_cons_of_mem _ List.mem_cons_self) w ?_
  refine Goes.load4 (List.mem_cons_self) w ?_
  refine Goes.node w (ih.expr _ p L x d _ v r2 w.pz hd e2) rfl rfl fun k2 tk2 tx2 y2 s9 hn2 hd2 w9 => ?_
  have a1 := w.sameN w9 (List.mem_cons_self) hn' hd'
  have a2 := w.sameN w9 (a := s.h) (List.mem_cons_of_mem _ List.mem_cons_self) hnd hdu'
  refine Goes.step (chk_of (by rw [a1, a2]; rfl) _) ?_
  refine Goes.two hnd (Goes.two hn' (Goes.two hn2 (Goes.fit hnd fun z1 hN1 _ _ => Goes.fit hn' fun z2 hN2 _ _ => Goes.fit hn2 fun z3 hN3 _ _ => ?_)))
  refine Goes.res0 [_, _] (old := z4) w9 rfl (nd_lit (isNs3 hN1 hN2 hN3) (by simp)) ?_
  simp only [dep_node, depL_app, depL_cons, depL_nil]
  omega
theorem callF_one (pat : Bool) (p : Nat) {β : Type} (s : St) (K : Kv β) : callF (orc vE) (Sx.prim (sx vE 90)) (fnOf pat p) [] s K = callS (orc vE) (oneF pat) [.mp p 0] s K := by cases pat <;> rfl
theorem one_nw {n : Nat} (ih : IH n) (pat : Bool) (hp : Pz PP st p L x d r) (hd : d ≤ 64) (h : P n (if pat then .pattern else .expr) d r = some ([t], r')) : NW PP (oneF pat) [.mp p 0] st p L x d t r' := by
  cases pat with
  | true => exact ih.pattern _ p L x d _ t r' hp hd h
  | false => exact ih.expr _ p L x d _ t r' hp hd h
theorem look_one (pat : Bool) : vE.isLook (oneF pat) = false := by cases pat <;> rfl
theorem full_one (pat : Bool) (p : Nat) : (bares ([AV.mp p 0].map strip) && !vE.full (oneF pat)) = false := rfl
theorem job_one (pat : Bool) : single (if pat then Job.pattern else .expr) = true := by cases pat <;> rfl
/-- A node that grows, and the result's variable. -/
def Gv (PT : TypeId) (st0 s : St) (p : Nat) (L : List Tok) (x : AV) (d : Nat) (r : List Tok) (a b k : Nat) (ts : List T) : Prop := ∃ (v : AV) (es : List AV), Wd PT st0 s p L x d r [(a, ND, [.int .u8 (k : Int), .int .u8 0, .str [], v]), (b, ND, z4)] [(v, es)] ∧ IsNs ts es ∧ depL ts ≤ 1000000000000000
theorem Gv.nd {PT : TypeId} {s : St} {a b k : Nat} {ts : List T} (h : Gv PT st0 s p L x d r a b k ts) : Nv PT st0 s p L x d r a b (node k ts) := by
  obtain ⟨v, es, w, hs, hd⟩ := h
  exact ⟨k, 0, [], v, w.drop, ⟨⟨ts, es, rfl, w.isK, hs⟩⟩⟩
theorem Gv.grow {PT : TypeId} {s : St} {a b k : Nat} {ts : List T} (h : Gv PT st0 s p L x d r a b k ts) {F : FuncId} {args : List AV} (hc : NW PT F args s p L x d t r') (h1 : vE.isLook F = false) (h2 : (bares (args.map strip) && !vE.full F) = false) (hl : ts.length ≤ 100000000) {K : St → Option β} (g : ∀ s, Gv PT st0 s p L x d r' a b k (ts ++ [t]) → Goes (K s) Q) :
    Goes (loadS 1 false (.mp a 3) s fun v rd => callS (orc vE) F args s fun u s x => unN u fun n1 n2 tx y => chk (apart ⟨rd, .kept⟩ x && (apart ⟨[], .kept⟩ x && true)) (asOne y (asOne y (fit1 y fun y => asOne y (fit1 y fun y => appS 4 56 ND v [.agg [.int .u8 n1, .int .u8 n2, .str tx, y]] s fun v s _ => asOne v (asOne v (storeS (orc vE) 1 (.mp a 3) v [v] s fun _ s _ => K s))))))) Q := by
  obtain ⟨v, es, w, hs, hd⟩ := h
  exact Goes.grow [] w hc h1 h2 hs hd hl fun v' e s hs' hd' w' => g s ⟨v', _, w', hs', hd'⟩
theorem Gv.pz {PT : TypeId} {s : St} {a b k : Nat} {ts : List T} (h : Gv PT st0 s p L x d r a b k ts) : Pz PT s p L x d r := by
  obtain ⟨v, es, w, hs, hd⟩ := h
  exact w.pz
theorem Gv.is {s : St} {a b k : Nat} {ts : List T} (h : Gv PP st0 s p L x d r a b k ts) {s0 : List UInt8} {K : Bool → St → Fx → Option β} (g : ∀ s', Gv PP st0 s' p L x d r a b k ts → Goes (K (isS s0 r) s' ⟨[], .all s s'⟩) Q) :
    Goes (callS (orc vE) 38 [.mp p 0, .sl 1 [.str s0] .shut] s fun v s fx => asB v fun b => K b s fx) Q := by
  obtain ⟨v, es, w, hs, hd⟩ := h
  exact Goes.is1 w fun s' w' => g s' ⟨v, es, w', hs, hd⟩
theorem items_loop {n : Nat} (hn : n ≤ 10000000) (ih : ∀ m, m < n → IH m) (list pat : Bool) {a b k : Nat} {st5 : St} (ha : st5.h = a) (hd : d ≤ 64) : ∀ (m : Nat) (ts bs : List T) (r r' : List Tok) (s : St), m ≤ n → P m (.items list pat) d r = some (bs, r') → Gv PP st0 s p L x d r a b k ts → ts.length + 2 * m ≤ 100000000 →
    Goes (loopO (w90_L1 (.mp p 0) (fnOf pat p) (betw list) st5) ([], s)) (fun q => ∃ s', q = (0, [], s') ∧ Gv PP st0 s' p L x d r' a b k (ts ++ bs)) := by
  intro m
  induction m with
  | zero => intro ts bs r r' s _ h; cases h
  | succ m ihm =>
    intro ts bs r r' s hm h hg hl
    simp only [P] at h
    have e0 : w90_L1 (.mp p 0) (fnOf pat p) (betw list) st5 ([], s) = w90_L1 (.mp p 0) (fnOf pat p) (betw list) st5 ([], s) := rfl
    split at h
    · rename_i hb
      obtain ⟨⟨a1, r1⟩, e1, h⟩ := bind_some h
      obtain ⟨u, rfl⟩ := P_one _ _ _ _ _ _ e1 (job_one pat)
      obtain ⟨⟨b1, r2⟩, e2, h⟩ := bind_some h
      cases h
      have hgo : Goes (w90_L1 (.mp p 0) (fnOf pat p) (betw list) st5 ([], s)) (fun q => ∃ s', q = .inl ([], s') ∧ Gv PP st0 s' p L x d r1 a b k (ts ++ [takeT r] ++ [u])) := by
        simp only [w90_L1, callF_one, ha, un0_nil]
        refine hg.is fun s1 hg => ?_
        rw [hb]
        refine Goes.step (ifB_true _ _) ?_
        refine hg.grow (take_nw hg.pz) rfl rfl (by omega) fun s2 hg => ?_
        refine hg.grow (one_nw (ih m (by omega)) pat hg.pz hd e1) (look_one pat) (full_one pat p) (by simp; omega) fun s3 hg => ?_
        exact Goes.some ⟨s3, rfl, hg⟩
      obtain ⟨q, e, s', rfl, hg'⟩ := hgo
      rw [loopO_inl e]
      refine (ihm _ b1 r1 _ s' (by omega) e2 hg' (by simp; omega)).mono ?_
      rintro q ⟨s2, rfl, hg2⟩
      refine ⟨s2, rfl, ?_⟩
      simpa using hg2
    · rename_i hb
      cases h
      have hgo : Goes (w90_L1 (.mp p 0) (fnOf pat p) (betw list) st5 ([], s)) (fun q => ∃ s', q = .inr (0, [], s') ∧ Gv PP st0 s' p L x d r a b k ts) := by
        simp only [w90_L1, callF_one, ha, un0_nil]
        refine hg.is fun s1 hg => ?_
        rw [eq_false_of_ne_true hb]
        exact Goes.step (ifB_false _ _) (Goes.some ⟨s1, rfl, hg⟩)
      obtain ⟨q, e, s', rfl, hg'⟩ := hgo
      exact ⟨_, loopO_inr e, s', rfl, by simpa using hg'⟩
theorem closed_step {n : Nat} (ih : ∀ m, m ≤ n → IH m) (hn : n ≤ 10000000) (list pat : Bool) : Doer 90 (fun p => [.int .u8 (kindOf list pat : Int), .str (betw list), .str (endOf list), fnOf pat p]) (.closed list pat) (n + 1) := by
  intro st p L x d r t r' hp hd h
  simp only [P] at h
  refine Goes.wide (Goes.step (w90_eq _ _ _ _ _ _) ?_)
  simp only [w90, callF_one, asI_int, asS_str]
  refine Goes.alloc (Wd.begin hp) fun s1 _ w => ?_
  refine Goes.take w fun k tk tx y s hnd hdu' w => ?_
  refine Goes.two hnd (Goes.fit hnd fun z1 hN1 _ _ => ?_)
  refine Goes.alloc w fun s3 _ w => ?_
  refine Goes.store [] w fun s4 fx w => ?_
  have hg : Gv PP st s4 p L x d (takeR r) s.h st.h (kindOf list pat) [takeT r] := ⟨_, _, w.shut (by simp), isNs1 hN1, by rw [depL_one]; exact hdu'⟩
  refine hg.is fun s5 hg => ?_
  split at h
  · rename_i hb
    cases h
    rw [hb]
    refine Goes.step (ifB_true _ _) ?_
    refine hg.grow (take_nw hg.pz) rfl rfl (by simp) fun s2 hg => ?_
    refine hg.nd.fin ?_
    have := dep_take r
    have := dep_take (takeR r)
    simp only [dep_node, depL_app, depL_cons, depL_nil]
    omega
  · rename_i hb
    rw [eq_false_of_ne_true hb]
    obtain ⟨⟨a1, r1⟩, e1, h⟩ := bind_some h
    obtain ⟨u, rfl⟩ := P_one _ _ _ _ _ _ e1 (job_one pat)
    obtain ⟨⟨b1, r2⟩, e2, h⟩ := bind_some h
    cases h
    refine Goes.step (ifB_false _ _) ?_
    refine hg.grow (one_nw (ih n (Nat.le_refl _)) pat hg.pz hd e1) (look_one pat) (full_one pat p) (by simp) fun s3 hg => ?_
    refine Goes.bind (items_loop hn (fun m hm => ih m (by omega)) list pat rfl hd n _ b1 _ _ s3 (Nat.le_refl _) e2 hg (by simp; omega)) ?_
    rintro q ⟨s6, rfl, hg⟩
    refine Goes.step (un0_nil _) ?_
    have hd1 := dep_of hn e2 rfl
    have hdu := dep_one hn e1 (acc_whole pat)
    have hl := items_len _ _ _ _ _ _ _ e2
    refine hg.grow (need_nw hg.pz (endOf list)) rfl rfl (by simp; omega) fun s7 hg => ?_
    have hfin := hg.nd.fin (t := node (kindOf list pat) ([takeT r] ++ [u] ++ b1 ++ [needT (endOf list) r2])) (by
      have := dep_take r
      have := dep_need (endOf list) r2
      simp only [dep_node, depL_app, depL_cons, depL_nil]
      omega)
    exact hfin
end
end Go.Proofs.YtkodpnfdmgbfnaaGreatDoor.Vm
/- The program's parser, by what is known of less fuel: atoms, applications, operators. -/
set_option maxRecDepth 100000
set_option linter.unusedSimpArgs false
namespace Go.Proofs.YtkodpnfdmgbfnaaGreatDoor.Vm
open Go Go.VM Go.Proofs Go.Lex Go.Parse
section
variable {β : Type} {Q : β → Prop} {st0 st : St} {p : Nat} {L : List Tok} {x : AV} {d d' : Nat} {r r' : List Tok} {l l1 l2 : List Vr} {os : List (AV × List AV)} {t : T}
def whatOf (pat : Bool) : List UInt8 := if pat then sPattern else sExpr
theorem atom_step {n : Nat} (ih : IH n) (pat : Bool) : Doer 59 (fun _ => [.bool pat]) (.atom pat) (n + 1) := by
  intro st p L x d r t r' hp hd h
  simp only [P] at h
  refine Goes.wide (Goes.step (w59_eq _ _ _) ?_)
  unfold w59
  refine Goes.step (asB_bool _ _) (Goes.alloc (Wd.begin hp) fun s1 _ w => ?_)
  have e : ∀ {β : Type} (K : Car → Option β), bindO (ifB pat (some ([AV.str sPattern, .int .u8 17, .int .u8 18, .str [95], fnOf true p, .int .u8 5], s1)) (some ([.str sExpr, .int .u8 14, .int .u8 15, .str [40], fnOf false p, .int .u8 6], s1))) K
      = K ([.str (whatOf pat), .int .u8 (kindOf false pat : Int), .int .u8 (kindOf true pat : Int), .str (signB pat), fnOf pat p, .int .u8 (kindB pat : Int)], s1) := by cases pat <;> exact fun K => rfl
  refine Goes.step (e _) ?_
  simp only [unc_cons, asS_str, asI_int, un0_nil]
  refine Goes.next w fun s2 s3 w => ?_
  refine Goes.begins pat w fun s4 w => ?_
  split at h
  · rename_i hb
    rw [hb]
    refine Goes.step (ifB_false _ _) ?_
    refine Goes.load1 (List.mem_cons_self) w rfl (Goes.step (asI_int _ _ _) ?_)
    split at h
    · rename_i h9
      cases h
      rw [show (((nx r).1 : Int) == 9) = true by rw [h9]; rfl]
      refine Goes.step (ifB_true _ _) (Goes.take w fun k tk tx y s hnd hdt w => ?_)
      refine Goes.two hnd (Goes.fit hnd fun z1 hN1 _ _ => ?_)
      refine Goes.res0 [_] (old := z4) w rfl (nd_lit (isNs1 hN1) (by simp)) ?_
      have := dep_take r
      simp only [dep_node, depL_cons, depL_nil]
      omega
    rename_i h9
    rw [show (((nx r).1 : Int) == 9) = false from beq_eq_false_iff_ne.2 (by omega)]
    refine Goes.step (ifB_false _ _) (Goes.is1 w fun s5 w => ?_)
    split at h
    · rename_i ho
      refine Goes.step (eq_tf (c := true) ho _ _) (Goes.step (ifB_true _ _) ?_)
      exact Goes.node w (ih.closed false pat _ p L x d r t r' w.pz hd h) rfl rfl fun k tk tx y s hnd hdt w => Goes.res [_] (old := z4) w rfl hnd hdt
    rename_i ho
    refine Goes.step (eq_tf (c := false) (eq_false_of_ne_true ho) _ _) (Goes.step (ifB_false _ _) (Goes.is1 w fun s6 w => ?_))
    split at h
    · rename_i ho
      refine Goes.step (eq_tf (c := true) ho _ _) (Goes.step (ifB_true _ _) ?_)
      exact Goes.node w (ih.closed true pat _ p L x d r t r' w.pz hd h) rfl rfl fun k tk tx y s hnd hdt w => Goes.res [_] (old := z4) w rfl hnd hdt
    · rename_i ho
      cases h
      refine Goes.step (eq_tf (c := false) (eq_false_of_ne_true ho) _ _) (Goes.step (ifB_false _ _) ?_)
      exact Goes.take w fun k tk tx y s hnd hdt w => Goes.res [_] (old := z4) w rfl hnd hdt
  · rename_i hb
    cases h
    rw [eq_false_of_ne_true hb]
    refine Goes.step (ifB_true _ _) (Goes.step (call_missing _ _ _) ?_)
    refine Goes.res [_] (old := z4) w rfl (nd_missing (whatOf pat)) ?_
    rw [dep_missing]; omega
theorem Nv.load {PT : TypeId} {s : St} {a b : Nat} (h : Nv PT st0 s p L x d r a b t) {K : Int → Int → List UInt8 → AV → List Nat → Option β} (g : ∀ (k tk : Nat) (tx : List UInt8) (y : AV), Wd PT st0 s p L x d r [(a, ND, [.int .u8 (k : Int), .int .u8 (tk : Int), .str tx, y]), (b, ND, z4)] [] → Nd t k tk tx y → Goes (K k tk tx y [a]) Q) : Goes (loadS 4 true (.mp a 0) s fun v rd => unN v fun a b c y => K a b c y rd) Q := by
  obtain ⟨k, tk, tx, y, w, hn⟩ := h
  exact Goes.load4 (List.mem_cons_self) w (g k tk tx y w hn)
theorem args_loop {n : Nat} (hn : n ≤ 10000000) (ih : ∀ m, m < n → IH m) {a b : Nat} {st5 : St} (ha : st5.h = a) (hd : d ≤ 64) : ∀ (m : Nat) (acc t : T) (r r' : List Tok) (s : St), m ≤ n → P m (.args acc) d r = some ([t], r') → Nv PP st0 s p L x d r a b acc → depT acc + m ≤ 900000000000000 →
    Goes (loopO (w129_L1 (.mp p 0) st5) ([], s)) (fun q => ∃ s', q = (0, [], s') ∧ Nv PP st0 s' p L x d r' a b t ∧ depT t ≤ 900000000000000) := by
  intro m
  induction m with
  | zero => intro acc t r r' s _ h; cases h
  | succ m ihm =>
    intro acc t r r' s hm h hg hl
    simp only [P] at h
    obtain ⟨k, tk, tx, y, w, hnd⟩ := hg
    split at h
    · rename_i hb
      obtain ⟨⟨a1, r1⟩, e1, h⟩ := bind_some h
      obtain ⟨u, rfl⟩ := P_one _ _ _ _ _ _ e1 rfl
      have hdu := dep_one (by omega : m ≤ 10000000) e1 rfl
      have hgo : Goes (w129_L1 (.mp p 0) st5 ([], s)) (fun q => ∃ s', q = .inl ([], s') ∧ Nv PP st0 s' p L x d r1 a b (node 13 [acc, u])) := by
        simp only [w129_L1, ha, un0_nil]
        refine Goes.begins false w fun s1 w => ?_
        rw [hb]
        refine Goes.step (ifB_true _ _) ?_
        refine Goes.load4 (List.mem_cons_self) w ?_
        refine Goes.node w ((ih m (by omega)).atom false _ p L x d r u r1 w.pz hd e1) rfl rfl fun k2 tk2 tx2 y2 s9 hn2 hd2 w9 => ?_
        have a1 := w.sameN w9 (List.mem_cons_self) hnd (by omega)
        refine Goes.step (chk_of (by rw [a1]; rfl) _) ?_
        refine Goes.two hnd (Goes.two hn2 (Goes.fit hnd fun z1 hN1 _ _ => Goes.fit hn2 fun z2 hN2 _ _ => ?_))
        refine Goes.store [] w9 fun s10 fx w => ?_
        exact Goes.some ⟨s10, rfl, 13, 0, [], _, w, nd_lit (isNs2 hN1 hN2) (by simp)⟩
      obtain ⟨q, e, s', rfl, hg'⟩ := hgo
      rw [loopO_inl e]
      refine ihm _ t r1 _ s' (by omega) h hg' ?_
      simp only [dep_node, depL_cons, depL_nil]
      omega
    · rename_i hb
      cases h
      have hgo : Goes (w129_L1 (.mp p 0) st5 ([], s)) (fun q => ∃ s', q = .inr (0, [], s') ∧ Nv PP st0 s' p L x d r a b acc) := by
        simp only [w129_L1, ha, un0_nil]
        refine Goes.begins false w fun s1 w => ?_
        rw [eq_false_of_ne_true hb]
        exact Goes.step (ifB_false _ _) (Goes.some ⟨s1, rfl, k, tk, tx, y, w, hnd⟩)
      obtain ⟨q, e, s', rfl, hg'⟩ := hgo
      exact ⟨_, loopO_inr e, s', rfl, hg', by omega⟩
theorem neg_step {n : Nat} (ih : ∀ m, m ≤ n → IH m) (hn : n ≤ 10000000) : Doer 129 (fun _ => []) .neg (n + 1) := by
  intro st p L x d r t r' hp hd h
  simp only [P] at h
  refine Goes.wide (Goes.step (w129_eq _ _) ?_)
  unfold w129
  refine Goes.alloc (Wd.begin hp) fun s1 _ w => ?_
  refine Goes.is [[45], [45, 46]] (by simp) w fun s2 w => ?_
  split at h
  · rename_i hb
    rw [hb]
    refine Goes.step (ifB_false _ _) ?_
    refine Goes.take w fun k tk tx y s hnd hdt w => ?_
    refine Goes.alloc w fun s3 _ w => Goes.two hnd ?_
    refine Goes.store [] w fun s4 fx w => ?_
    refine Goes.load4 (List.mem_cons_self) w ?_
    have dk := dep_take r
    split at h
    · rename_i hd
      subst hd
      cases h
      refine Goes.node w (within_deep _ _ w.pz) rfl rfl fun k2 tk2 tx2 y2 s9 hn2 hd2 w9 => ?_
      have a1 := w.sameN w9 (List.mem_cons_self) hnd (by omega)
      refine Goes.step (chk_of (by rw [a1]; rfl) _) ?_
      refine Goes.two hnd (Goes.two hn2 (Goes.fit hnd fun z1 hN1 _ _ => Goes.fit hn2 fun z2 hN2 _ _ => ?_))
      refine Goes.res0 [_] (old := z4) w9 rfl (nd_lit (isNs2 hN1 hN2) (by simp)) ?_
      have := dep_deep sExpr (takeR r)
      simp only [dep_node, depL_cons, depL_nil]
      omega
    · obtain ⟨⟨a1, r1⟩, e1, h⟩ := bind_some h
      obtain ⟨u, rfl⟩ := P_one _ _ _ _ _ _ e1 rfl
      cases h
      have hdu := dep_one hn e1 rfl
      refine Goes.node w (within_ok (F := 129) (args := [.mp p 0]) _ w.pz (by omega) rfl rfl (fun _ _ => rfl) fun s _ hp => (ih n (Nat.le_refl _)).neg s p L x (d + 1) _ u r1 hp (by omega) e1) rfl rfl fun k2 tk2 tx2 y2 s9 hn2 hd2 w9 => ?_
      have a1 := w.sameN w9 (List.mem_cons_self) hnd (by omega)
      refine Goes.step (chk_of (by rw [a1]; rfl) _) ?_
      refine Goes.two hnd (Goes.two hn2 (Goes.fit hnd fun z1 hN1 _ _ => Goes.fit hn2 fun z2 hN2 _ _ => ?_))
      refine Goes.res0 [_] (old := z4) w9 rfl (nd_lit (isNs2 hN1 hN2) (by simp)) ?_
      simp only [dep_node, depL_cons, depL_nil]
      omega
  · rename_i hb
    rw [eq_false_of_ne_true hb]
    refine Goes.step (ifB_true _ _) ?_
    obtain ⟨⟨a1, r1⟩, e1, h⟩ := bind_some h
    obtain ⟨u, rfl⟩ := P_one _ _ _ _ _ _ e1 rfl
    have hdu := dep_one hn e1 rfl
    refine Goes.node w ((ih n (Nat.le_refl _)).atom false _ p L x d r u r1 w.pz hd e1) rfl rfl fun k tk tx y s hnd hdt w => ?_
    refine Goes.alloc w fun s3 _ w => Goes.two hnd ?_
    refine Goes.store [] w fun s4 fx w => ?_
    refine Goes.bind (args_loop hn (fun m hm => ih m (by omega)) rfl hd n u t r1 r' s4 (Nat.le_refl _) h ⟨k, tk, tx, y, w, hnd⟩ (by omega)) ?_
    rintro q ⟨s6, rfl, hg, hdt⟩
    exact Goes.step (un0_nil _) (hg.fin (by omega))
def levA : AV := .sl 2 [.agg [.sl 1 [.str [124, 124]] .shut, .bool false], .agg [.sl 1 [.str [38, 38]] .shut, .bool false], .agg [.sl 1 [.str [61], .str [60, 62], .str [60], .str [60, 61], .str [62], .str [62, 61]] .shut, .bool true], .agg [.sl 1 [.str [64], .str [94]] .shut, .bool false],
  .agg [.sl 1 [.str [58, 58]] .shut, .bool false], .agg [.sl 1 [.str [43], .str [45], .str [43, 46], .str [45, 46]] .shut, .bool true], .agg [.sl 1 [.str [42], .str [47], .str [42, 46], .str [47, 46], .str [109, 111, 100]] .shut, .bool true]] .shut
theorem call_levels {β : Type} (st : St) (K : Kv β) : callS (orc vE) 128 [] st K = K levA st q0 := callS_bare st K rfl rfl rfl (bare_of rfl (g128_eq.trans rfl))
theorem lev_idx {k : Nat} (hk : k ≤ 6) {β : Type} (st : St) (K : AV → List Nat → Option β) : idxA 2 levA (k : Int) st K = K (.ip [.sl 1 ((opsOf k).map AV.str) .shut, .bool (Parse.leftOf k)]) [] := by
  match k, hk with
  | 0, _ => rfl
  | 1, _ => rfl
  | 2, _ => rfl
  | 3, _ => rfl
  | 4, _ => rfl
  | 5, _ => rfl
  | 6, _ => rfl
theorem ops_loop {n : Nat} (hn : n ≤ 10000000) (ih : ∀ m, m < n → IH m) {a b k : Nat} (hk : k ≤ 6) {st5 : St} (ha : st5.h = a) (hd : d ≤ 64) : ∀ (m : Nat) (acc t : T) (r r' : List Tok) (s : St), m ≤ n → P m (.ops k acc) d r = some ([t], r') → Nv PP st0 s p L x d r a b acc → depT acc + m ≤ 900000000000000 →
    Goes (loopO (w117_L1 (.mp p 0) (k : Int) levA st5) ([], s)) (fun q => ∃ s', q = (0, [], s') ∧ Nv PP st0 s' p L x d r' a b t ∧ depT t ≤ 900000000000000) := by
  intro m
  induction m with
  | zero => intro acc t r r' s _ h; cases h
  | succ m ihm =>
    intro acc t r r' s hm h hg hl
    simp only [P] at h
    obtain ⟨k1, tk, tx, y, w, hnd⟩ := hg
    have hlen : (opsOf k).length ≤ 1000 := by
      match k, hk with
      | 0, _ => simp [opsOf]
      | 1, _ => simp [opsOf]
      | 2, _ => simp [opsOf]
      | 3, _ => simp [opsOf]
      | 4, _ => simp [opsOf]
      | 5, _ => simp [opsOf]
      | 6, _ => simp [opsOf]
    split at h
    · rename_i hb
      obtain ⟨⟨a1, r1⟩, e1, h⟩ := bind_some h
      obtain ⟨u, rfl⟩ := P_one _ _ _ _ _ _ e1 rfl
      have hdu := dep_one (by omega : m ≤ 10000000) e1 rfl
      have hdk := dep_take r
      have hgo : Goes (w117_L1 (.mp p 0) (k : Int) levA st5 ([], s)) (fun q => ∃ s', q = .inl ([], s') ∧ Nv PP st0 s' p L x d r1 a b (node 11 [acc, takeT r, u])) := by
        simp only [w117_L1, ha, un0_nil, lev_idx hk, fldA_ip, loadS_ip, List.drop_zero, drop1, takeO_one, bindO_ok, asB_bool]
        refine Goes.is (opsOf k) hlen w fun s1 w => ?_
        rw [hb]
        refine Goes.step (ifB_true _ _) ?_
        refine Goes.take w fun k' tk' tx' y' s6 hn' hd' w => ?_
        refine Goes.alloc w fun s7 _ w => Goes.two hn' ?_
        refine Goes.store [] w fun s8 fx w => ?_
        have e : ∀ {β : Type} (K : Car → Option β), bindO (ifB (Parse.leftOf k) (letV (IntKind.wrap .i64 ((k : Int) + 1)) fun n97 => some ([AV.int .i64 n97], s8)) (some ([AV.int .i64 (k : Int)], s8))) K = K ([.int .i64 ((if Parse.leftOf k then k + 1 else k : Nat) : Int)], s8) := by
          intro β K
          cases Parse.leftOf k with
          | true =>
            rw [ifB_true, letV_eq, wrapA1 (by omega), if_pos rfl]
            rfl
          | false =>
            rw [ifB_false, if_neg (by simp)]
            rfl
        refine Goes.step (e _) ?_
        simp only [unc_cons, asI_int, un0_nil]
        refine Goes.load4 (a := a) (List.mem_cons_of_mem _ List.mem_cons_self) w ?_
        refine Goes.load4 (List.mem_cons_self) w ?_
        refine Goes.node w ((ih m (by omega)).level _ (by split <;> omega) _ p L x d _ u r1 w.pz hd e1) rfl rfl fun k2 tk2 tx2 y2 s9 hn2 hd2 w9 => ?_
        have a1 := w.sameN w9 (List.mem_cons_self) hn' hd'
        have a2 := w.sameN w9 (a := a) (List.mem_cons_of_mem _ List.mem_cons_self) hnd (by omega)
        refine Goes.step (chk_of (by rw [a1, a2]; rfl) _) ?_
        refine Goes.two hnd (Goes.two hn' (Goes.two hn2 (Goes.fit hnd fun z1 hN1 _ _ => Goes.fit hn' fun z2 hN2 _ _ => Goes.fit hn2 fun z3 hN3 _ _ => ?_)))
        refine Goes.store [_] w9 fun s10 fx w => ?_
        exact Goes.some ⟨s10, rfl, 11, 0, [], _, w.sub sub2, nd_lit (isNs3 hN1 hN2 hN3) (by simp)⟩
      obtain ⟨q, e, s', rfl, hg'⟩ := hgo
      rw [loopO_inl e]
      refine ihm _ t r1 _ s' (by omega) h hg' ?_
      simp only [dep_node, depL_cons, depL_nil]
      omega
    · rename_i hb
      cases h
      have hgo : Goes (w117_L1 (.mp p 0) (k : Int) levA st5 ([], s)) (fun q => ∃ s', q = .inr (0, [], s') ∧ Nv PP st0 s' p L x d r a b acc) := by
        simp only [w117_L1, ha, un0_nil, lev_idx hk, fldA_ip, loadS_ip, List.drop_zero, drop1, takeO_one, bindO_ok, asB_bool]
        refine Goes.is (opsOf k) hlen w fun s1 w => ?_
        rw [eq_false_of_ne_true hb]
        exact Goes.step (ifB_false _ _) (Goes.some ⟨s1, rfl, k1, tk, tx, y, w, hnd⟩)
      obtain ⟨q, e, s', rfl, hg'⟩ := hgo
      exact ⟨_, loopO_inr e, s', rfl, hg', by omega⟩
theorem level_step {n : Nat} (ih : ∀ m, m ≤ n → IH m) (hn : n ≤ 10000000) (k : Nat) (hk : k ≤ 7) : Doer 117 (fun _ => [.int .i64 (k : Int)]) (.level k) (n + 1) := by
  intro st p L x d r t r' hp hd h
  simp only [P] at h
  refine Goes.wide (Goes.step (w117_eq _ _ _) ?_)
  unfold w117
  refine Goes.step (asI_int _ _ _) (Goes.alloc (Wd.begin hp) fun s1 _ w => ?_)
  refine Goes.step (call_levels _ _) ?_
  refine Goes.step (lenS_sl _ _ _ _) ?_
  split at h
  · rename_i h7
    subst h7
    refine Goes.step (ifB_true _ _) ?_
    exact Goes.node w ((ih n (Nat.le_refl _)).neg _ p L x d r t r' w.pz hd h) rfl rfl fun k tk tx y s hnd hdt w => Goes.res [] (old := z4) w rfl hnd hdt
  · rename_i h7
    refine Goes.step (eq_tf (c := false) (beq_eq_false_iff_ne.2 (show (k : Int) ≠ ((7 : Nat) : Int) by omega)) _ _) (Goes.step (ifB_false _ _) ?_)
    rw [letV_eq, wrapA1 (by omega)]
    obtain ⟨⟨a1, r1⟩, e1, h⟩ := bind_some h
    obtain ⟨u, rfl⟩ := P_one _ _ _ _ _ _ e1 rfl
    have hdu := dep_one hn e1 rfl
    refine Goes.node w ((ih n (Nat.le_refl _)).level (k + 1) (by omega) _ p L x d r u r1 w.pz hd e1) rfl rfl fun k1 tk tx y s hnd hdt w => ?_
    refine Goes.alloc w fun s3 _ w => Goes.two hnd ?_
    refine Goes.store [] w fun s4 fx w => ?_
    refine Goes.bind (ops_loop hn (fun m hm => ih m (by omega)) (by omega : k ≤ 6) rfl hd n u t r1 r' s4 (Nat.le_refl _) h ⟨k1, tk, tx, y, w, hnd⟩ (by omega)) ?_
    rintro q ⟨s6, rfl, hg, hdt⟩
    exact Goes.step (un0_nil _) (hg.fin (by omega))
end
end Go.Proofs.YtkodpnfdmgbfnaaGreatDoor.Vm
/- The program's parser, by what is known of less fuel: bindings. -/
set_option maxRecDepth 100000
set_option linter.unusedSimpArgs false
namespace Go.Proofs.YtkodpnfdmgbfnaaGreatDoor.Vm
open Go Go.VM Go.Proofs Go.Lex Go.Parse
section
variable {β : Type} {Q : β → Prop} {PT : TypeId} {st0 st s : St} {p : Nat} {L : List Tok} {x : AV} {d d' : Nat} {r r' : List Tok} {l l1 l2 : List Vr} {os : List (AV × List AV)} {t : T}
/-- A slice made by an append. -/
theorem Wd.made (w : Wd PT st0 st p L x d r l os) {es : List AV} {n : Nat} (hn : n = es.length) (hl : n ≤ 1000000000) : Wd PT st0 (st.add (.tok n ND)) p L x d r l ((.sl 4 es (.own st.h), es) :: os) := by
  subst hn
  have w' := w.quiet (Keeps.add st (.tok es.length ND) _)
  refine ⟨w'.pz, w'.k, w'.v, w'.nd, fun q hq => ?_, List.pairwise_cons.2 ⟨fun q hq j hj hj' => ?_, w'.od⟩, w.p0, w.ro0⟩
  · rcases List.mem_cons.1 hq with rfl | hq
    · refine ⟨⟨Nat.le_succ_of_le w.ro, by show es.length ≤ 9223372036854775807; omega, .inr (.inr ⟨st.h, rfl, St.get_add_new, w.ro⟩)⟩, fun j hj => ?_⟩
      obtain ⟨_, _, e⟩ := hj
      cases e
      exact w.h
    · exact w'.o q hq
  · obtain ⟨_, _, e⟩ := hj
    cases e
    have := (own_lt (w.o q hq).1 hj').1
    omega
/-- A slice of trees in hand. -/
def Sv (PT : TypeId) (st0 s : St) (p : Nat) (L : List Tok) (x : AV) (d : Nat) (r : List Tok) (v : AV) (ts : List T) : Prop := ∃ es, Wd PT st0 s p L x d r [] [(v, es)] ∧ IsNs ts es ∧ depL ts ≤ 1000000000000000
theorem Sv.app {v : AV} {ts : List T} (h : Sv PT st0 s p L x d r v ts) {F : FuncId} {args : List AV} (hc : NW PT F args s p L x d t r') (h1 : vE.isLook F = false) (h2 : (bares (args.map strip) && !vE.full F) = false) (hl : ts.length ≤ 100000000) {K : AV → St → Option β} (g : ∀ v s, Sv PT st0 s p L x d r' v (ts ++ [t]) → Goes (K v s) Q) :
    Goes (callS (orc vE) F args s fun u s _ => unN u fun n1 n2 tx y => asOne y (asOne y (fit1 y fun y => asOne y (fit1 y fun y => appS 4 56 ND v [.agg [.int .u8 n1, .int .u8 n2, .str tx, y]] s fun v s _ => K v s)))) Q := by
  obtain ⟨es, w, hs, hd⟩ := h
  refine Goes.node w hc h1 h2 fun k' tk' tx' y s hn hdt w' => ?_
  refine Goes.two hn (Goes.fit hn fun y' hN h1 hf => Goes.one h1 (Goes.step (hf _) (Goes.app w' (by simp) (by rw [IsNs.len hs]; simp; omega) fun v' s' fx ho w2 => ?_)))
  exact g v' s' ⟨_, w2, IsNs.app hs (isNs1 hN), by rw [depL_app, depL_one]; omega⟩
theorem Sv.pz {v : AV} {ts : List T} (h : Sv PT st0 s p L x d r v ts) : Pz PT s p L x d r := by
  obtain ⟨es, w, hs, hd⟩ := h
  exact w.pz
theorem Sv.begins {v : AV} {ts : List T} (pat : Bool) (h : Sv PP st0 s p L x d r v ts) {K : Bool → St → Fx → Option β} (g : ∀ s', Sv PP st0 s' p L x d r v ts → Goes (K (begins pat r) s' ⟨[], .all s s'⟩) Q) :
    Goes (callS (orc vE) 58 [.mp p 0, .int .u8 (kindB pat : Int), .str (signB pat)] s fun v s fx => asB v fun b => K b s fx) Q := by
  obtain ⟨es, w, hs, hd⟩ := h
  exact Goes.begins pat w fun s' w' => g s' ⟨es, w', hs, hd⟩
theorem params_loop {n : Nat} (ih : ∀ m, m < n → IH m) (hd : d ≤ 64) : ∀ (m : Nat) (ts bs : List T) (r r' : List Tok) (v : AV) (s : St), m ≤ n → P m .params d r = some (bs, r') → Sv PP st0 s p L x d r v ts → ts.length + m ≤ 100000000 →
    Goes (loopO (w40_L1 (.mp p 0)) ([v], s)) (fun q => ∃ v' s', q = (0, [v'], s') ∧ Sv PP st0 s' p L x d r' v' (ts ++ bs)) := by
  intro m
  induction m with
  | zero => intro ts bs r r' v s _ h; cases h
  | succ m ihm =>
    intro ts bs r r' v s hm h hg hl
    simp only [P] at h
    split at h
    · rename_i hb
      obtain ⟨⟨a1, r1⟩, e1, h⟩ := bind_some h
      obtain ⟨u, rfl⟩ := P_one _ _ _ _ _ _ e1 rfl
      obtain ⟨⟨b1, r2⟩, e2, h⟩ := bind_some h
      cases h
      have hgo : Goes (w40_L1 (.mp p 0) ([v], s)) (fun q => ∃ v' s', q = .inl ([v'], s') ∧ Sv PP st0 s' p L x d r1 v' (ts ++ [u])) := by
        simp only [w40_L1, unc_cons, un0_nil]
        refine hg.begins true fun s1 hg => ?_
        rw [hb]
        refine Goes.step (ifB_true _ _) ?_
        exact hg.app ((ih m (by omega)).atom true _ p L x d r u r1 hg.pz hd e1) rfl rfl (by omega) fun v' s' hg => Goes.some ⟨v', s', rfl, hg⟩
      obtain ⟨q, e, v', s', rfl, hg'⟩ := hgo
      rw [loopO_inl e]
      refine (ihm _ b1 r1 _ v' s' (by omega) e2 hg' (by simp; omega)).mono ?_
      rintro q ⟨v2, s2, rfl, hg2⟩
      exact ⟨v2, s2, rfl, by simpa using hg2⟩
    · rename_i hb
      cases h
      have hgo : Goes (w40_L1 (.mp p 0) ([v], s)) (fun q => ∃ s', q = .inr (0, [v], s') ∧ Sv PP st0 s' p L x d r v ts) := by
        simp only [w40_L1, unc_cons, un0_nil]
        refine hg.begins true fun s1 hg => ?_
        rw [eq_false_of_ne_true hb]
        exact Goes.step (ifB_false _ _) (Goes.some ⟨s1, rfl, hg⟩)
      obtain ⟨q, e, s', rfl, hg'⟩ := hgo
      exact ⟨_, loopO_inr e, v, s', rfl, by simpa using hg'⟩
theorem binding_step {n : Nat} (ih : ∀ m, m ≤ n → IH m) (hn : n ≤ 10000000) : Binder (n + 1) := by
  intro st p L x d r ts r' hp hd h
  simp only [P] at h
  refine Goes.wide (Goes.step (w40_eq _ _) ?_)
  unfold w40
  refine Goes.is1 (Wd.begin hp) fun s1 w => ?_
  have dk := dep_take r
  refine Goes.bind (R := fun c => ∃ v s, c = ([v], s) ∧ Sv PP st s p L x d (if isS sRec r then takeR r else r) v (if isS sRec r then [takeT r] else [])) ?_ ?_
  · cases hb : isS sRec r with
    | true =>
      refine Goes.step (eq_tf (c := true) hb _ _) (Goes.step (ifB_true _ _) ?_)
      refine Goes.take w fun k tk tx y s hnd hdt w => ?_
      refine Goes.two hnd (Goes.fit hnd fun z1 hN1 h1 hf => Goes.one h1 (Goes.step (hf _) ?_))
      refine Goes.some ⟨_, _, rfl, _, w.made rfl (by simp), isNs1 hN1, ?_⟩
      rw [if_pos rfl, depL_one]; exact hdt
    | false =>
      refine Goes.step (eq_tf (c := false) hb _ _) (Goes.step (ifB_false _ _) ?_)
      exact Goes.some ⟨_, _, rfl, [], w.nils, IsNs.nil, by simp [depL_nil]⟩
  generalize hrc : (if isS sRec r then [takeT r] else []) = rc at h
  have hrl : rc.length ≤ 1 := by rw [← hrc]; split <;> simp
  generalize (if isS sRec r then takeR r else r) = r0 at h
  rintro c ⟨v, s, rfl, hg⟩
  simp only [unc_cons, un0_nil]
  obtain ⟨es, w, hs, hdd⟩ := hg
  refine Goes.next w fun s2 s3 w => ?_
  refine Goes.load1 (List.mem_cons_self) w rfl (Goes.step (asI_int _ _ _) ?_)
  have w := w.sub (List.nil_sublist _)
  have hxs : ∃ xs r1 es r2, P n .expr d (needR sEq r1) = some ([es], r2) ∧ ts = rc ++ xs ++ [needT sEq r1] ++ [es] ∧ r' = r2 ∧ xs.length ≤ n + 1 ∧
      (if (nx r0).1 = 4 then ∃ ps, P n .params d (takeR r0) = some (ps, r1) ∧ xs = takeT r0 :: ps else P n (.atom true) d r0 = some (xs, r1)) := by
    split at h
    · rename_i h4
      obtain ⟨⟨xs, r1⟩, e1, h⟩ := bind_some h
      obtain ⟨⟨ps, r3⟩, e3, e1⟩ := bind_some e1
      cases e1
      obtain ⟨⟨es, r2⟩, e2, h⟩ := bind_some h
      obtain ⟨u, rfl⟩ := P_one _ _ _ _ _ _ e2 rfl
      cases h
      have := params_len _ _ _ _ _ e3
      exact ⟨takeT r0 :: ps, r3, u, _, e2, rfl, rfl, by simpa using this, by rw [if_pos h4]; exact ⟨ps, e3, rfl⟩⟩
    · rename_i h4
      obtain ⟨⟨xs, r1⟩, e1, h⟩ := bind_some h
      obtain ⟨⟨es, r2⟩, e2, h⟩ := bind_some h
      obtain ⟨u, rfl⟩ := P_one _ _ _ _ _ _ e2 rfl
      cases h
      have := one_len e1 rfl
      exact ⟨xs, r1, u, _, e2, rfl, rfl, by omega, by rw [if_neg h4]; exact e1⟩
  clear h
  obtain ⟨xs, r1, u, r2, e2, rfl, rfl, hxl, hx⟩ := hxs
  have hg : Sv PP st s3 p L x d r0 v rc := ⟨es, w, hrc ▸ hs, hrc ▸ hdd⟩
  refine Goes.bind (R := fun c => ∃ v s, c = ([v], s) ∧ Sv PP st s p L x d r1 v (rc ++ xs)) ?_ ?_
  · by_cases h4 : (nx r0).1 = 4
    · rw [if_pos h4] at hx
      obtain ⟨ps, e3, rfl⟩ := hx
      refine Goes.step (eq_tf (c := true) (by rw [h4]; rfl) _ _) (Goes.step (ifB_true _ _) ?_)
      refine hg.app (take_nw hg.pz) rfl rfl (by omega) fun v' s' hg => ?_
      refine Goes.bind (params_loop (fun m hm => ih m (by omega)) hd n _ ps _ r1 v' s' (Nat.le_refl _) e3 hg (by simp; omega)) ?_
      rintro q ⟨v2, s4, rfl, hg⟩
      simp only [unc_cons, un0_nil]
      exact Goes.some ⟨v2, s4, rfl, by simpa using hg⟩
    · rw [if_neg h4] at hx
      obtain ⟨a1, rfl⟩ := P_one _ _ _ _ _ _ hx rfl
      refine Goes.step (eq_tf (c := false) (beq_eq_false_iff_ne.2 (by omega)) _ _) (Goes.step (ifB_false _ _) ?_)
      exact hg.app ((ih n (Nat.le_refl _)).atom true _ p L x d r0 a1 r1 hg.pz hd hx) rfl rfl (by omega) fun v' s' hg => Goes.some ⟨v', s', rfl, hg⟩
  · rintro c ⟨v', s4, rfl, es4, w, hs4, hd4⟩
    simp only [unc_cons, un0_nil]
    have hdu := dep_one hn e2 rfl
    refine Goes.need w fun k tk tx y s5 hnd hdt w => ?_
    refine Goes.node w ((ih n (Nat.le_refl _)).expr _ p L x d _ u r' w.pz hd e2) rfl rfl fun k2 tk2 tx2 y2 s6 hn2 hd2 w => ?_
    refine Goes.two hnd (Goes.two hn2 (Goes.fit hnd fun z1 hN1 h1 hf1 => Goes.fit hn2 fun z2 hN2 h2 hf2 => Goes.one h1 (Goes.step (hf1 _) (Goes.one h2 (Goes.step (hf2 _) ?_)))))
    refine Goes.app w (by simp) (by rw [IsNs.len hs4]; simp; omega) fun v5 s7 fx ho w => ?_
    have hw := w.o _ List.mem_cons_self
    refine Goes.some ⟨_, hw.1, hw.2, ?_, ?_, w.pz, w.k⟩
    · rw [List.append_assoc (rc ++ xs)]
      exact IsNs.app hs4 (isNs2 hN1 hN2)
    · have := dep_need sEq r1
      simp only [depL_app, depL_one] at hd4 ⊢
      omega
end
end Go.Proofs.YtkodpnfdmgbfnaaGreatDoor.Vm
/- The program's parser, by what is known of less fuel: what stands whole; all of it. -/
set_option maxRecDepth 100000
set_option linter.unusedSimpArgs false
namespace Go.Proofs.YtkodpnfdmgbfnaaGreatDoor.Vm
open Go Go.VM Go.Proofs Go.Lex Go.Parse
section
variable {β : Type} {Q : β → Prop} {PT : TypeId} {st0 st s : St} {p : Nat} {L : List Tok} {x : AV} {d d' : Nat} {r r' : List Tok} {l l1 l2 : List Vr} {os : List (AV × List AV)} {t : T}
theorem isN_fit {t : T} {e : AV} (h : IsN t e) {β : Type} (K : AV → Option β) : fitT true e K = K e := by
  cases t with
  | mk k tk tx l =>
    simp only [IsN] at h
    obtain ⟨x, es, rfl, hx, _⟩ := h
    simp only [fitT, unA_agg, onesS, asOne_int, asOne_str, hx.asOne, fitC, fit1_int, fit1_str, hx.fit1]
theorem isN_cells {t : T} {e : AV} (h : IsN t e) : e.cells.length = 4 := by
  cases t with
  | mk k tk tx l =>
    simp only [IsN] at h
    obtain ⟨x, es, rfl, hx, _⟩ := h
    rfl
theorem IsNs.mem : ∀ {l : List T} {es : List AV}, IsNs l es → ∀ e ∈ es, ∃ t ∈ l, IsN t e
  | [], _, h, e, he => by simp only [IsNs] at h; subst h; cases he
  | t :: l, _, h, e, he => by
    simp only [IsNs] at h
    obtain ⟨a, r, rfl, h1, h2⟩ := h
    rcases List.mem_cons.1 he with rfl | he
    · exact ⟨t, List.mem_cons_self, h1⟩
    · obtain ⟨u, hu, hi⟩ := IsNs.mem h2 e he
      exact ⟨u, List.mem_cons_of_mem _ hu, hi⟩
theorem fits_ns {l : List T} {es : List AV} (h : IsNs l es) {β : Type} (K : List AV → Option β) : fitTs true es K = K es := fitTs_of (fun v hv K => by
  obtain ⟨t, _, hi⟩ := h.mem v hv
  exact isN_fit hi K) K
theorem sizes_ns {l : List T} {es : List AV} (h : IsNs l es) : sizesOk 4 es = true := sizesOk_of fun v hv => by
  obtain ⟨t, _, hi⟩ := h.mem v hv
  exact isN_cells hi
theorem bares_mp (u : AV) (a o : Nat) (F : FuncId) : (bares ([u, AV.mp a o].map strip) && !vE.full F) = false := by
  show (bares [strip u, .mp a o] && _) = false
  simp only [bares_cons]
  show (_ && (false && true) && _) = false
  simp
/-- More Kids for a variable's node. -/
theorem add_ok (l1 : List Vr) {a : Nat} {k tk : Int} {tx : List UInt8} {v : AV} {es : List AV} {ts us : List T} {u : AV} {fs : List AV}
    (w : Wd PT st0 st p L x d r (l1 ++ (a, ND, [.int .u8 k, .int .u8 tk, .str tx, v]) :: l2) ((v, es) :: os)) (hns : IsNs ts es) (hu : ∀ {γ : Type} (K : List AV → Option γ), elemsS u K = K fs) (hus : IsNs us fs) (hne : us ≠ []) (hl : ts.length + us.length ≤ 100000000) :
    Goes ((orc vE).wide 115 [u, .mp a 0] st) (fun b => b.1 = .tup [] ∧ ∃ v', Wd PT st0 b.2 p L x d r (l1 ++ (a, ND, [.int .u8 k, .int .u8 tk, .str tx, v']) :: l2) ((v', es ++ fs) :: os)) := by
  have hm : (a, ND, [AV.int .u8 k, .int .u8 tk, .str tx, v]) ∈ l1 ++ (a, ND, [AV.int .u8 k, .int .u8 tk, .str tx, v]) :: l2 := List.mem_append_right _ List.mem_cons_self
  have hfl := IsNs.len hus
  have hel := IsNs.len hns
  have hfn : fs ≠ [] := by
    rintro rfl
    cases us with
    | nil => exact hne rfl
    | cons _ _ => cases hfl
  refine Goes.wide (Goes.step (w115_eq _ _ _) ?_)
  unfold w115
  refine Goes.step (fldA_mp _ _ _ _) ?_
  refine Goes.load1 hm w rfl ?_
  refine Goes.step (hu _) (Goes.step (fits_ns hus _) (Goes.step (chk_of (sizes_ns hus) _) ?_))
  refine Goes.app w hfn (by omega) fun v' s fx ho w => ?_
  refine Goes.step (fldA_mp _ _ _ _) (Goes.one ho (Goes.one ho ?_))
  exact Goes.storeF l1 w (Nat.le_of_ble_eq_true rfl) fun s3 fx3 w3 => Goes.some ⟨rfl, v', w3⟩
theorem Gv.add {a b k : Nat} {ts us : List T} {u : AV} {fs : List AV} (h : Gv PT st0 s p L x d r a b k ts) (hu : ∀ {γ : Type} (K : List AV → Option γ), elemsS u K = K fs) (hus : IsNs us fs) (hne : us ≠ []) (hd : depL us ≤ 1000000000000000) (hl : ts.length + us.length ≤ 100000000) {K : Kv β} (g : ∀ s fx, Gv PT st0 s p L x d r a b k (ts ++ us) → Goes (K (.tup []) s fx) Q) :
    Goes (callS (orc vE) 115 [u, .mp a 0] s K) Q := by
  obtain ⟨v, es, w, hs, hdd⟩ := h
  refine Goes.callW (add_ok [] w hs hu hus hne hl) rfl (bares_mp u a 0 _) fun v2 s2 h => ?_
  obtain ⟨rfl, v', w'⟩ := h
  exact g s2 _ ⟨v', _, w', IsNs.app hs hus, by rw [depL_app]; omega⟩
theorem Gv.addN {a b k : Nat} {ts : List T} (h : Gv PT st0 s p L x d r a b k ts) {F : FuncId} {args : List AV} (hc : NW PT F args s p L x d t r') (h1 : vE.isLook F = false) (h2 : (bares (args.map strip) && !vE.full F) = false) (hl : ts.length + 1 ≤ 100000000) {K : St → Option β} (g : ∀ s, Gv PT st0 s p L x d r' a b k (ts ++ [t]) → Goes (K s) Q) :
    Goes (callS (orc vE) F args s fun u s _ => unN u fun n1 n2 tx y => asOne y (asOne y (fit1 y fun y => callS (orc vE) 115 [.sl 4 [.agg [.int .u8 n1, .int .u8 n2, .str tx, y]] .shut, .mp a 0] s fun _ s _ => K s))) Q := by
  obtain ⟨v, es, w, hs, hd⟩ := h
  refine Goes.node w hc h1 h2 fun k' tk' tx' y s hn hdt w' => ?_
  refine Goes.two hn (Goes.fit hn fun y' hN h1 hf => ?_)
  have hg : Gv PT st0 s p L x d r' a b k ts := ⟨v, es, w', hs, hd⟩
  exact hg.add (fun K => rfl) (isNs1 hN) (by simp) (by rw [depL_one]; exact hdt) hl fun s fx hg => g s hg
theorem Gv.begins {a b k : Nat} {ts : List T} (pat : Bool) (h : Gv PP st0 s p L x d r a b k ts) {K : Bool → St → Fx → Option β} (g : ∀ s', Gv PP st0 s' p L x d r a b k ts → Goes (K (begins pat r) s' ⟨[], .all s s'⟩) Q) :
    Goes (callS (orc vE) 58 [.mp p 0, .int .u8 (kindB pat : Int), .str (signB pat)] s fun v s fx => asB v fun b => K b s fx) Q := by
  obtain ⟨v, es, w, hs, hd⟩ := h
  exact Goes.begins pat w fun s' w' => g s' ⟨v, es, w', hs, hd⟩
theorem params_loop2 {n : Nat} (ih : ∀ m, m < n → IH m) {a b k : Nat} {st5 : St} (ha : st5.h = a) (hd : d ≤ 64) : ∀ (m : Nat) (ts bs : List T) (r r' : List Tok) (s : St), m ≤ n → P m .params d r = some (bs, r') → Gv PP st0 s p L x d r a b k ts → ts.length + m ≤ 100000000 →
    Goes (loopO (w92_L1 (.mp p 0) st5) ([], s)) (fun q => ∃ s', q = (0, [], s') ∧ Gv PP st0 s' p L x d r' a b k (ts ++ bs)) := by
  intro m
  induction m with
  | zero => intro ts bs r r' s _ h; cases h
  | succ m ihm =>
    intro ts bs r r' s hm h hg hl
    simp only [P] at h
    split at h
    · rename_i hb
      obtain ⟨⟨a1, r1⟩, e1, h⟩ := bind_some h
      obtain ⟨u, rfl⟩ := P_one _ _ _ _ _ _ e1 rfl
      obtain ⟨⟨b1, r2⟩, e2, h⟩ := bind_some h
      cases h
      have hgo : Goes (w92_L1 (.mp p 0) st5 ([], s)) (fun q => ∃ s', q = .inl ([], s') ∧ Gv PP st0 s' p L x d r1 a b k (ts ++ [u])) := by
        simp only [w92_L1, un0_nil, ha]
        refine hg.begins true fun s1 hg => ?_
        rw [hb]
        refine Goes.step (ifB_true _ _) ?_
        exact hg.addN ((ih m (by omega)).atom true _ p L x d r u r1 hg.pz hd e1) rfl rfl (by omega) fun s' hg => Goes.some ⟨s', rfl, hg⟩
      obtain ⟨q, e, s', rfl, hg'⟩ := hgo
      rw [loopO_inl e]
      refine (ihm _ b1 r1 _ s' (by omega) e2 hg' (by simp; omega)).mono ?_
      rintro q ⟨s2, rfl, hg2⟩
      exact ⟨s2, rfl, by simpa using hg2⟩
    · rename_i hb
      cases h
      have hgo : Goes (w92_L1 (.mp p 0) st5 ([], s)) (fun q => ∃ s', q = .inr (0, [], s') ∧ Gv PP st0 s' p L x d r a b k ts) := by
        simp only [w92_L1, un0_nil, ha]
        refine hg.begins true fun s1 hg => ?_
        rw [eq_false_of_ne_true hb]
        exact Goes.step (ifB_false _ _) (Goes.some ⟨s1, rfl, hg⟩)
      obtain ⟨q, e, s', rfl, hg'⟩ := hgo
      exact ⟨_, loopO_inr e, s', rfl, by simpa using hg'⟩
theorem arms_loop {n : Nat} (ih : ∀ m, m < n → IH m) {a b k : Nat} {st5 : St} (ha : st5.h = a) (hd : d ≤ 64) : ∀ (m : Nat) (ts bs : List T) (r r' : List Tok) (s : St), m ≤ n → P m .arms d r = some (bs, r') → Gv PP st0 s p L x d r a b k ts → ts.length + 2 * m ≤ 100000000 →
    Goes (loopO (w92_L2 (.mp p 0) st5) ([], s)) (fun q => ∃ s', q = (0, [], s') ∧ Gv PP st0 s' p L x d r' a b k (ts ++ bs)) := by
  intro m
  induction m with
  | zero => intro ts bs r r' s _ h; cases h
  | succ m ihm =>
    intro ts bs r r' s hm h hg hl
    simp only [P] at h
    split at h
    · rename_i hb
      obtain ⟨⟨a1, r1⟩, e1, h⟩ := bind_some h
      obtain ⟨u, rfl⟩ := P_one _ _ _ _ _ _ e1 rfl
      obtain ⟨⟨b1, r2⟩, e2, h⟩ := bind_some h
      cases h
      have hgo : Goes (w92_L2 (.mp p 0) st5 ([], s)) (fun q => ∃ s', q = .inl ([], s') ∧ Gv PP st0 s' p L x d r1 a b k (ts ++ [takeT r] ++ [u])) := by
        simp only [w92_L2, un0_nil, ha]
        refine hg.is fun s1 hg => ?_
        refine Goes.step (eq_tf (c := true) hb _ _) (Goes.step (ifB_true _ _) ?_)
        refine hg.addN (take_nw hg.pz) rfl rfl (by omega) fun s' hg => ?_
        exact hg.addN ((ih m (by omega)).arm _ p L x d _ u r1 hg.pz hd e1) rfl rfl (by simp; omega) fun s' hg => Goes.some ⟨s', rfl, hg⟩
      obtain ⟨q, e, s', rfl, hg'⟩ := hgo
      rw [loopO_inl e]
      refine (ihm _ b1 r1 _ s' (by omega) e2 hg' (by simp; omega)).mono ?_
      rintro q ⟨s2, rfl, hg2⟩
      exact ⟨s2, rfl, by simpa using hg2⟩
    · rename_i hb
      cases h
      have hgo : Goes (w92_L2 (.mp p 0) st5 ([], s)) (fun q => ∃ s', q = .inr (0, [], s') ∧ Gv PP st0 s' p L x d r a b k ts) := by
        simp only [w92_L2, un0_nil, ha]
        refine hg.is fun s1 hg => ?_
        exact Goes.step (eq_tf (c := false) (eq_false_of_ne_true hb) _ _) (Goes.step (ifB_false _ _) (Goes.some ⟨s1, rfl, hg⟩))
      obtain ⟨q, e, s', rfl, hg'⟩ := hgo
      exact ⟨_, loopO_inr e, s', rfl, by simpa using hg'⟩
/-- Where an expression is wanted next. -/
def Mid (n : Nat) (st s : St) (p : Nat) (L : List Tok) (x : AV) (d a b : Nat) (t : T) (r' : List Tok) : Prop := ∃ k ts e r3, Gv PP st s p L x d r3 a b k ts ∧ P n .expr d r3 = some ([e], r') ∧ t = node k (ts ++ [e]) ∧ ts.length ≤ 50000000
def WR (M : St → Prop) (Q : AV × St → Prop) : Sum Car (AV × St) → Prop
  | .inl q => ∃ s, q = ([], s) ∧ M s
  | .inr b => Q b
def WR2 (M : St → Prop) (Q : AV × St → Prop) : Sum Car (Sum Car (AV × St)) → Prop
  | .inl q => ∃ s, q = ([], s) ∧ M s
  | .inr b => WR M Q b
theorem whole_step {n : Nat} (ih : ∀ m, m ≤ n → IH m) (hn : n ≤ 10000000) : Doer 92 (fun _ => []) .whole (n + 1) := by
  intro st p L x d r t r' hp hd h
  have hdt : depT t ≤ 200000000000000 := by
    have := P_dep (n + 1) .whole d r [t] r' h
    rw [show accL Job.whole = [] from rfl, depL_nil, depL_one] at this
    have hq : (n + 1) * (n + 1) ≤ 10000001 * 10000001 := Nat.mul_le_mul (by omega) (by omega)
    omega
  simp only [P] at h
  refine Goes.wide (Goes.step (w92_eq _ _) ?_)
  unfold w92
  refine Goes.alloc (Wd.begin hp) fun s0 h0 w => ?_
  refine Goes.alloc w fun s1 _ w => ?_
  refine Goes.is1 w fun s2 w => ?_
  have ihn := ih n (Nat.le_refl _)
  have dtk := dep_take r
  refine Goes.bind (R := WR (fun s => Mid n st s p L x d s0.h st.h t r') (NQ PP st p L x d t r')) ?_ ?_
  · split at h
    · rename_i hb
      obtain ⟨⟨bs, r2⟩, e1, h⟩ := bind_some h
      obtain ⟨⟨es, r3⟩, e2, h⟩ := bind_some h
      obtain ⟨e, rfl⟩ := P_one _ _ _ _ _ _ e2 rfl
      cases h
      refine Goes.step (eq_tf (c := true) hb _ _) (Goes.step (ifB_true _ _) ?_)
      refine Goes.storeF [] w (Nat.le_of_ble_eq_true rfl) fun s3 _ w => ?_
      have hg : Gv PP st s3 p L x d r s0.h st.h 6 [] := ⟨_, _, w.nils, IsNs.nil, by simp [depL_nil]⟩
      refine hg.addN (take_nw hg.pz) rfl rfl (by simp) fun s4 hg => ?_
      refine Goes.callW (ihn.binding s4 p L x d _ bs r2 hg.pz hd e1) rfl rfl fun v s5 hv => ?_
      obtain ⟨es, ho, _, hns, hdl, hp5, hk5⟩ := hv
      have hbl := binding_len _ _ _ _ _ e1
      have hg : Gv PP st s5 p L x d r2 s0.h st.h 6 ([] ++ [takeT r]) := by
        obtain ⟨v, es, w, hs, hd⟩ := hg
        exact ⟨v, es, w.move hk5 hp5, hs, hd⟩
      refine hg.add (fun K => (IsK.own ho).elems K) hns hbl.2 hdl (by simp; omega) fun s6 _ hg => ?_
      refine hg.addN (need_nw hg.pz _) rfl rfl (by simp; omega) fun s7 hg => ?_
      exact Goes.some ⟨s7, rfl, 6, _, e, _, hg, e2, by simp [List.append_assoc]; rfl, by simp; omega⟩
    rename_i hb
    refine Goes.step (eq_tf (c := false) (eq_false_of_ne_true hb) _ _) (Goes.step (ifB_false _ _) ?_)
    refine Goes.is1 w fun s3 w => ?_
    refine Goes.bind (R := WR2 (fun s => Mid n st s p L x d s0.h st.h t r') (NQ PP st p L x d t r')) ?_ ?_
    · split at h
      · rename_i hb
        obtain ⟨⟨a1, r1⟩, e1, h⟩ := bind_some h
        obtain ⟨u, rfl⟩ := P_one _ _ _ _ _ _ e1 rfl
        obtain ⟨⟨ps, r2⟩, e2, h⟩ := bind_some h
        obtain ⟨⟨es, r3⟩, e3, h⟩ := bind_some h
        obtain ⟨e, rfl⟩ := P_one _ _ _ _ _ _ e3 rfl
        cases h
        have hpl := params_len _ _ _ _ _ e2
        refine Goes.step (eq_tf (c := true) hb _ _) (Goes.step (ifB_true _ _) ?_)
        refine Goes.storeF [] w (Nat.le_of_ble_eq_true rfl) fun s4 _ w => ?_
        have hg : Gv PP st s4 p L x d r s0.h st.h 7 [] := ⟨_, _, w.nils, IsNs.nil, by simp [depL_nil]⟩
        refine hg.addN (take_nw hg.pz) rfl rfl (by simp) fun s4 hg => ?_
        refine hg.addN (ihn.atom true _ p L x d _ u r1 hg.pz hd e1) rfl rfl (by simp) fun s5 hg => ?_
        refine Goes.bind (params_loop2 (fun m hm => ih m (by omega)) rfl hd n _ ps _ r2 s5 (Nat.le_refl _) e2 hg (by simp; omega)) ?_
        rintro q ⟨s6, rfl, hg⟩
        refine Goes.step (un0_nil _) ?_
        refine hg.addN (need_nw hg.pz _) rfl rfl (by simp; omega) fun s7 hg => ?_
        exact Goes.some ⟨s7, rfl, 7, _, e, _, hg, e3, by simp [List.append_assoc]; rfl, by simp; omega⟩
      rename_i hb
      refine Goes.step (eq_tf (c := false) (eq_false_of_ne_true hb) _ _) (Goes.step (ifB_false _ _) ?_)
      refine Goes.is1 w fun s4 w => ?_
      split at h
      · rename_i hb
        obtain ⟨⟨a1, r1⟩, e1, h⟩ := bind_some h
        obtain ⟨u, rfl⟩ := P_one _ _ _ _ _ _ e1 rfl
        obtain ⟨⟨b1, r2⟩, e2, h⟩ := bind_some h
        obtain ⟨v, rfl⟩ := P_one _ _ _ _ _ _ e2 rfl
        obtain ⟨⟨es, r3⟩, e3, h⟩ := bind_some h
        obtain ⟨e, rfl⟩ := P_one _ _ _ _ _ _ e3 rfl
        cases h
        refine Goes.step (eq_tf (c := true) hb _ _) (Goes.step (ifB_true _ _) ?_)
        refine Goes.storeF [] w (Nat.le_of_ble_eq_true rfl) fun s4 _ w => ?_
        have hg : Gv PP st s4 p L x d r s0.h st.h 8 [] := ⟨_, _, w.nils, IsNs.nil, by simp [depL_nil]⟩
        refine hg.addN (take_nw hg.pz) rfl rfl (by simp) fun s4 hg => ?_
        refine hg.addN (ihn.expr _ p L x d _ u r1 hg.pz hd e1) rfl rfl (by simp) fun s5 hg => ?_
        refine hg.addN (need_nw hg.pz _) rfl rfl (by simp) fun s6 hg => ?_
        refine hg.addN (ihn.expr _ p L x d _ v r2 hg.pz hd e2) rfl rfl (by simp) fun s7 hg => ?_
        refine hg.addN (need_nw hg.pz _) rfl rfl (by simp) fun s8 hg => ?_
        exact Goes.some ⟨s8, rfl, 8, _, e, _, hg, e3, rfl, by simp⟩
      rename_i hb
      refine Goes.step (eq_tf (c := false) (eq_false_of_ne_true hb) _ _) (Goes.step (ifB_false _ _) ?_)
      refine Goes.is1 w fun s5 w => ?_
      split at h
      · rename_i hb
        obtain ⟨⟨a1, r1⟩, e1, h⟩ := bind_some h
        obtain ⟨u, rfl⟩ := P_one _ _ _ _ _ _ e1 rfl
        obtain ⟨⟨b1, r3⟩, e2, h⟩ := bind_some h
        obtain ⟨v, rfl⟩ := P_one _ _ _ _ _ _ e2 rfl
        obtain ⟨⟨cs, r4⟩, e3, h⟩ := bind_some h
        cases h
        have hal := arms_len _ _ _ _ _ e3
        refine Goes.step (eq_tf (c := true) hb _ _) (Goes.step (ifB_true _ _) ?_)
        refine Goes.storeF [] w (Nat.le_of_ble_eq_true rfl) fun s4 _ w => ?_
        have hg : Gv PP st s4 p L x d r s0.h st.h 9 [] := ⟨_, _, w.nils, IsNs.nil, by simp [depL_nil]⟩
        refine hg.addN (take_nw hg.pz) rfl rfl (by simp) fun s4 hg => ?_
        refine hg.addN (ihn.expr _ p L x d _ u r1 hg.pz hd e1) rfl rfl (by simp) fun s5 hg => ?_
        refine hg.addN (need_nw hg.pz _) rfl rfl (by simp) fun s6 hg => ?_
        refine hg.is fun s7 hg => ?_
        refine Goes.bind (R := fun c => ∃ s, c = ([], s) ∧ Gv PP st s p L x d (if isS sBar (needR sWith r1) = true then takeR (needR sWith r1) else needR sWith r1) s0.h st.h 9 ([takeT r] ++ [u] ++ [needT sWith r1] ++ if isS sBar (needR sWith r1) = true then [takeT (needR sWith r1)] else [])) ?_ ?_
        · cases hb2 : isS sBar (needR sWith r1) with
          | true =>
            refine Goes.step (eq_tf (c := true) hb2 _ _) (Goes.step (ifB_true _ _) ?_)
            exact hg.addN (take_nw hg.pz) rfl rfl (by simp) fun s8 hg => Goes.some ⟨s8, rfl, hg⟩
          | false =>
            refine Goes.step (eq_tf (c := false) hb2 _ _) (Goes.step (ifB_false _ _) ?_)
            exact Goes.some ⟨s7, rfl, by rw [if_neg (by simp), if_neg (by simp), List.append_nil]; exact hg⟩
        · rintro c ⟨s8, rfl, hg⟩
          have hbl : (if isS sBar (needR sWith r1) = true then [takeT (needR sWith r1)] else []).length ≤ 1 := by split <;> simp
          generalize (if isS sBar (needR sWith r1) = true then [takeT (needR sWith r1)] else []) = bar at hbl hg hdt ⊢
          refine Goes.step (un0_nil _) ?_
          refine hg.addN (ihn.arm _ p L x d _ v r3 hg.pz hd e2) rfl rfl (by simp; omega) fun s9 hg => ?_
          refine Goes.bind (arms_loop (fun m hm => ih m (by omega)) rfl hd n _ cs _ _ s9 (Nat.le_refl _) e3 hg (by simp; omega)) ?_
          rintro q ⟨s10, rfl, hg⟩
          refine Goes.step (un0_nil _) ?_
          refine hg.nd.load fun k tk tx y w hnd => Goes.two hnd ?_
          refine Goes.store [_] w fun s11 _ w => ?_
          refine Goes.bind (R := fun c => ∃ b, c = .inr b ∧ NQ PP st p L x d _ _ b) (Goes.bind (R := NQ PP st p L x d (node 9 ([takeT r] ++ [u] ++ [needT sWith r1] ++ bar ++ [v] ++ cs)) _) (Goes.load4 (List.mem_cons_of_mem _ List.mem_cons_self) w (Goes.some ⟨hnd.vn, Nat.le_trans hdt (by omega), w.pz, w.k⟩)) fun b hb => Goes.some ⟨b, rfl, hb⟩) ?_
          rintro c ⟨b, rfl, hb⟩
          exact Goes.some hb
      · rename_i hb
        refine Goes.step (eq_tf (c := false) (eq_false_of_ne_true hb) _ _) (Goes.step (ifB_false _ _) ?_)
        refine Goes.node w (ihn.level 0 (by omega) _ p L x d r t r' w.pz hd h) rfl rfl fun k tk tx y s hnd hdt' w => Goes.two hnd ?_
        refine Goes.store [_] w fun s11 _ w => ?_
        refine Goes.bind (R := fun c => ∃ b, c = .inr b ∧ NQ PP st p L x d t r' b) (Goes.bind (R := NQ PP st p L x d t r') (Goes.load4 (List.mem_cons_of_mem _ List.mem_cons_self) w (Goes.some ⟨hnd.vn, hdt', w.pz, w.k⟩)) fun b hb => Goes.some ⟨b, rfl, hb⟩) ?_
        rintro c ⟨b, rfl, hb⟩
        exact Goes.some hb
    · intro c hc
      match c, hc with
      | .inl q, hc =>
        obtain ⟨s, rfl, hm⟩ := hc
        exact Goes.some ⟨s, rfl, hm⟩
      | .inr b, hc => exact Goes.some hc
  · intro c hc
    match c, hc with
    | .inl q, hc =>
      obtain ⟨s, rfl, k, ts, e, r3, hg, he, rfl, hl⟩ := hc
      refine Goes.step (onSum_inl _ _) (Goes.step (un0_nil _) ?_)
      refine hg.addN (ihn.expr _ p L x d _ e r' hg.pz hd he) rfl rfl (by omega) fun s4 hg => ?_
      exact hg.nd.fin (Nat.le_trans hdt (by omega))
    | .inr b, hc => exact Goes.some hc
theorem all_ok : ∀ n, n ≤ 10000000 → IH n := by
  intro n
  induction n using Nat.strongRecOn with
  | _ n ih =>
    intro hn
    cases n with
    | zero =>
      refine ⟨?_, ?_, fun k _ => ?_, ?_, fun pat => ?_, fun list pat => ?_, ?_, ?_, ?_⟩
      all_goals
        intro st p L x d r t r' _ _ h
        cases h
    | succ n =>
      have ih' : ∀ m, m ≤ n → IH m := fun m hm => ih m (by omega) (by omega)
      have i := ih' n (Nat.le_refl _)
      have hn' : n ≤ 10000000 := by omega
      exact ⟨expr_step i, whole_step ih' hn', fun k hk => level_step ih' hn' k hk, neg_step ih' hn', fun pat => atom_step i pat, fun list pat => closed_step ih' hn' list pat, pattern_step i hn', arm_step i hn', binding_step ih' hn'⟩
end
end Go.Proofs.YtkodpnfdmgbfnaaGreatDoor.Vm
/- The program's parser: the whole document. -/
set_option maxRecDepth 100000
set_option linter.unusedSimpArgs false
namespace Go.Proofs.YtkodpnfdmgbfnaaGreatDoor.Vm
open Go Go.VM Go.Proofs Go.Lex Go.Parse
section
variable {β : Type} {Q : β → Prop} {PT : TypeId} {st0 st s : St} {p : Nat} {L : List Tok} {x : AV} {d d' : Nat} {r r' : List Tok} {l l1 l2 : List Vr} {os : List (AV × List AV)} {t : T}
abbrev TO : TypeId := 24
/-- The next token, in a new variable. -/
theorem _root_.Go.VM.Goes.renew {tk : Nat} {a : Int} {b : List UInt8} (w : Wd PP st0 st p L x d r l os) (hm : (tk, TO, [.int .u8 a, .str b]) ∈ l) {K : St → Option β} (g : ∀ s', Wd PP st0 s' p L x d r ((st.h, TO, [.int .u8 ((nx r).1 : Int), .str (nx r).2]) :: l) os → Goes (K s') Q) :
    Goes (loadS 2 true (.mp tk 0) st fun v _ => unA v fun cs => unc cs fun u cs => asI .u8 u fun n => unc cs fun u cs => asS u fun tx => un0 cs (letSt (St.add st (.cells TO [.int .u8 0, .str []])) fun s1 => storeS (orc vE) 2 (.mp (St.h st) 0) (.agg [.int .u8 n, .str tx]) [.int .u8 n, .str tx] s1 fun _ s2 _ =>
      callS (orc vE) 37 [.mp p 0] s2 fun v s _ => unT v fun vs => nthS vs 0 fun u => unA u fun cs => unc cs fun a cs => asI .u8 a fun n => unc cs fun b cs => asS b fun tx => un0 cs (unT v fun vs => nthS vs 1 fun u => asI .i64 u fun _ => storeS (orc vE) 2 (.mp (St.h st) 0) (.agg [.int .u8 n, .str tx]) [.int .u8 n, .str tx] s fun _ s' _ => K s'))) Q := by
  refine Goes.load2 hm w ?_
  simp only [unA_agg, unc_cons, asI_int, asS_str, un0_nil]
  refine Goes.alloc w fun s1 _ w1 => Goes.store [] w1 fun s2 _ w2 => ?_
  obtain ⟨i, h, rfl⟩ := w2.pz
  obtain ⟨s3, k, e⟩ := call_next h
  refine Goes.step (e _) ?_
  simp only [unT_tup, nthS_zero, nthS_one, unA_agg, unc_cons, asI_int, asS_str, un0_nil]
  exact Goes.store [] (w2.quiet k) fun s4 _ w4 => g s4 w4
theorem ne_beq {a b : Nat} (h : a ≠ b) : ((a : Int) != (b : Int)) = true := by
  rw [bne, beq_eq_false_iff_ne.2 (show (a : Int) ≠ (b : Int) by omega)]; rfl
/-- Tokens up to a let, taken. -/
theorem skip_loop {c26 : Car} {kc : Nat} (hc : c26.2.h = kc) : ∀ (m : Nat) (r : List Tok) (tk : Nat) (ts : List T) (es : List AV) (v : AV) (s : St) (os : List (AV × List AV)),
    Wd PP st0 s p L x d r ([(tk, TO, [.int .u8 ((nx r).1 : Int), .str (nx r).2])] ++ (kc, ND, [.int .u8 3, .int .u8 0, .str [], v]) :: l2) ((v, es) :: os) → IsNs ts es → depL ts ≤ 2 → ts.length + m ≤ 100000000 → r.length ≤ m →
    Goes (loopO (w24_L1 (.mp p 0) c26) ([.mp tk 0], s)) (fun q => ∃ s' v' es', q = (0, [], s') ∧ Wd PP st0 s' p L x d (skip m r).2 ((kc, ND, [.int .u8 3, .int .u8 0, .str [], v']) :: l2) ((v', es') :: os) ∧ IsNs (ts ++ (skip m r).1) es' ∧ depL (ts ++ (skip m r).1) ≤ 2) := by
  intro m
  induction m with
  | zero =>
    intro r tk ts es v s os w hns hdl hl hr
    obtain rfl : r = [] := List.eq_nil_of_length_eq_zero (by omega)
    simp only [skip, List.append_nil]
    have hgo : Goes (w24_L1 (.mp p 0) c26 ([.mp tk 0], s)) (fun q => q = .inr (0, [], s)) := by
      simp only [w24_L1, unc_cons, un0_nil]
      refine Goes.bind (R := fun c => c = ([.bool false], s)) ?_ ?_
      · refine Goes.step (fldA_mp _ _ _ _) ?_
        refine Goes.load1 (List.mem_cons_self) w rfl (Goes.step (asI_int _ _ _) ?_)
        exact Goes.some rfl
      · rintro c rfl
        exact Goes.some rfl
    obtain ⟨q, e, rfl⟩ := hgo
    exact ⟨_, loopO_inr e, s, v, es, rfl, w.sub (List.Sublist.cons _ (List.Sublist.refl _)), hns, hdl⟩
  | succ m ihm =>
    intro r tk ts es v s os w hns hdl hl hr
    by_cases hcond : (nx r).1 ≠ 0 ∧ isS sLet r = false
    · have hgo : Goes (w24_L1 (.mp p 0) c26 ([.mp tk 0], s)) (fun q => ∃ tk' s' v' e, q = .inl ([.mp tk' 0], s') ∧ Wd PP st0 s' p L x d (takeR r) ([(tk', TO, [.int .u8 ((nx (takeR r)).1 : Int), .str (nx (takeR r)).2])] ++ (kc, ND, [.int .u8 3, .int .u8 0, .str [], v']) :: l2) ((v', es ++ [e]) :: os) ∧ IsNs (ts ++ [takeT r]) (es ++ [e])) := by
        simp only [w24_L1, unc_cons, un0_nil, hc]
        refine Goes.bind (R := fun c => ∃ s', c = ([.bool true], s') ∧ Wd PP st0 s' p L x d r ([(tk, TO, [.int .u8 ((nx r).1 : Int), .str (nx r).2])] ++ (kc, ND, [.int .u8 3, .int .u8 0, .str [], v]) :: l2) ((v, es) :: os)) ?_ ?_
        · refine Goes.step (fldA_mp _ _ _ _) ?_
          refine Goes.load1 (List.mem_cons_self) w rfl (Goes.step (asI_int _ _ _) ?_)
          refine Goes.step (eq_tf (c := true) (ne_beq (b := 0) hcond.1) _ _) (Goes.step (ifB_true _ _) ?_)
          refine Goes.is1 w fun s1 w => ?_
          exact Goes.some ⟨s1, by rw [show isS [108, 101, 116] r = false from hcond.2]; rfl, w⟩
        · rintro c ⟨s1, rfl, w⟩
          simp only [unc_cons, un0_nil, asB_bool, ifB_true]
          refine Goes.grow [_] w (take_nw w.pz) rfl rfl hns (by omega) (by omega) fun v' e s2 hns' _ w => ?_
          refine Goes.renew w (tk := tk) List.mem_cons_self fun s3 w => ?_
          refine Goes.some ⟨_, s3, v', e, rfl, w.sub ?_, hns'⟩
          exact List.Sublist.cons_cons _ (List.Sublist.cons _ (List.Sublist.refl _))
      obtain ⟨q, e, tk', s', v', e1, rfl, w', hns'⟩ := hgo
      rw [loopO_inl e]
      have hlt := takeR_lt hcond.1
      have hsk : skip (m + 1) r = (takeT r :: (skip m (takeR r)).1, (skip m (takeR r)).2) := by
        simp only [skip]
        rw [if_pos hcond]
      rw [hsk]
      refine (ihm (takeR r) tk' _ _ v' s' os w' hns' ?_ (by simp; omega) (by omega)).mono ?_
      · have := dep_take r
        rw [depL_app, depL_one]
        omega
      · rintro q ⟨s2, v2, es2, rfl, w2, hn2, hd2⟩
        exact ⟨s2, v2, es2, rfl, w2, by simpa using hn2, by simpa using hd2⟩
    · have hsk : skip (m + 1) r = ([], r) := by
        simp only [skip]
        rw [if_neg hcond]
      rw [hsk, List.append_nil]
      have hgo : Goes (w24_L1 (.mp p 0) c26 ([.mp tk 0], s)) (fun q => ∃ s', q = .inr (0, [], s') ∧ Wd PP st0 s' p L x d r ([(tk, TO, [.int .u8 ((nx r).1 : Int), .str (nx r).2])] ++ (kc, ND, [.int .u8 3, .int .u8 0, .str [], v]) :: l2) ((v, es) :: os)) := by
        simp only [w24_L1, unc_cons, un0_nil]
        refine Goes.bind (R := fun c => ∃ s', c = ([.bool false], s') ∧ Wd PP st0 s' p L x d r ([(tk, TO, [.int .u8 ((nx r).1 : Int), .str (nx r).2])] ++ (kc, ND, [.int .u8 3, .int .u8 0, .str [], v]) :: l2) ((v, es) :: os)) ?_ ?_
        · refine Goes.step (fldA_mp _ _ _ _) ?_
          refine Goes.load1 (List.mem_cons_self) w rfl (Goes.step (asI_int _ _ _) ?_)
          by_cases h0 : (nx r).1 = 0
          · rw [h0]
            exact Goes.some ⟨s, rfl, by rw [h0] at w; exact w⟩
          · have hb : isS sLet r = true := by
              cases hb : isS sLet r with
              | true => rfl
              | false => exact absurd ⟨h0, hb⟩ hcond
            refine Goes.step (eq_tf (c := true) (ne_beq (b := 0) h0) _ _) (Goes.step (ifB_true _ _) ?_)
            refine Goes.is1 w fun s1 w => ?_
            exact Goes.some ⟨s1, by rw [show isS [108, 101, 116] r = true from hb]; rfl, w⟩
        · rintro c ⟨s1, rfl, w⟩
          exact Goes.some ⟨s1, rfl, w⟩
      obtain ⟨q, e, s', rfl, w'⟩ := hgo
      exact ⟨_, loopO_inr e, s', v, es, rfl, w'.sub (List.Sublist.cons _ (List.Sublist.refl _)), hns, hdl⟩
theorem skip_dep (n : Nat) (r : List Tok) : depL (skip n r).1 ≤ 2 := by
  induction n generalizing r with
  | zero => simp [skip, depL_nil]
  | succ n ih =>
    simp only [skip]
    split
    · have := dep_take r
      have := ih (takeR r)
      simp only [depL_cons]
      omega
    · simp [depL_nil]
/-- One declaration, or what is none. -/
theorem document_loop {s0 : St} {a b : Nat} (ha : s0.h = a) : ∀ (N : Nat) (r : List Tok) (D : List T) (tk : Nat) (ts : List T) (es : List AV) (v : AV) (s : St), N ≤ 10000000 → decls N r = some D → r.length ≤ 1000000 →
    Wd PP st0 s p L x 0 r ([(tk, TO, [.int .u8 ((nx r).1 : Int), .str (nx r).2])] ++ (a, ND, [.int .u8 4, .int .u8 0, .str [], v]) :: [(b, ND, z4)]) [(v, es)] → IsNs ts es → depL ts ≤ 500000000000000 → ts.length + N ≤ 90000000 →
    Goes (loopO (w24_L2 (.mp p 0) s0) ([.mp tk 0], s)) (fun q => ∃ s' rE D0, q = (0, [], s') ∧ D = D0 ++ [takeT rE] ∧ Gv PP st0 s' p L x 0 rE a b 4 (ts ++ D0) ∧ (ts ++ D0).length ≤ 90000000 ∧ depL (ts ++ D0) ≤ 500000000000000) := by
  intro N
  induction N with
  | zero => intro r D tk ts es v s _ h; cases h
  | succ n ihn =>
    intro r D tk ts es v s hN h hrl w hns hdl hl
    simp only [decls] at h
    split at h
    · rename_i h0
      cases h
      have hgo : Goes (w24_L2 (.mp p 0) s0 ([.mp tk 0], s)) (fun q => q = .inr (0, [], s)) := by
        simp only [w24_L2, unc_cons, un0_nil]
        refine Goes.step (fldA_mp _ _ _ _) ?_
        refine Goes.load1 (List.mem_cons_self) w rfl (Goes.step (asI_int _ _ _) ?_)
        rw [h0]
        exact Goes.some rfl
      obtain ⟨q, e, rfl⟩ := hgo
      exact ⟨_, loopO_inr e, s, r, [], rfl, rfl, ⟨v, es, w.sub (List.Sublist.cons _ (List.Sublist.refl _)), by simpa using hns, by rw [List.append_nil]; omega⟩, by simp; omega, by rw [List.append_nil]; exact hdl⟩
    · rename_i h0
      have hst : ∃ (u : T) (r1 : List Tok) (D1 : List T), decls n r1 = some D1 ∧ D = u :: D1 ∧ depT u ≤ 300000000000000 ∧ r1.length ≤ r.length ∧
          Goes (w24_L2 (.mp p 0) s0 ([.mp tk 0], s)) (fun q => ∃ tk' s' v' e, q = .inl ([.mp tk' 0], s') ∧ Wd PP st0 s' p L x 0 r1 ([(tk', TO, [.int .u8 ((nx r1).1 : Int), .str (nx r1).2])] ++ (a, ND, [.int .u8 4, .int .u8 0, .str [], v']) :: [(b, ND, z4)]) [(v', es ++ [e])] ∧ IsN u e) := by
        -- the new tree is in its variable: what is done then
        have back : ∀ (kc : Nat) (k : Nat) (u : T) (r1 : List Tok) (s5 : St) (vk : AV), Nd u k 0 [] vk →
            Wd PP st0 s5 p L x 0 r1 ((kc, ND, [.int .u8 (k : Int), .int .u8 0, .str [], vk]) :: (tk, TO, [.int .u8 ((nx r).1 : Int), .str (nx r).2]) :: (a, ND, [.int .u8 4, .int .u8 0, .str [], v]) :: [(b, ND, z4)]) [(v, es)] →
            Goes (loadS 1 false (.mp a 3) s5 fun v166 _ => loadS 4 true (.mp kc 0) s5 fun v168 _ => unN v168 fun n1 n2 tx y => asOne y (asOne y (fit1 y fun y => asOne y (fit1 y fun y => appS 4 56 ND v166 [.agg [.int .u8 n1, .int .u8 n2, .str tx, y]] s5 fun v185 s6 _ => asOne v185 (asOne v185 (storeS (orc vE) 1 (.mp a 3) v185 [v185] s6 fun _ s7 _ =>
              loadS 2 true (.mp tk 0) s7 fun v _ => unA v fun cs => unc cs fun u cs => asI .u8 u fun n => unc cs fun u cs => asS u fun tx => un0 cs (letSt (St.add s7 (.cells TO [.int .u8 0, .str []])) fun s1 => storeS (orc vE) 2 (.mp (St.h s7) 0) (.agg [.int .u8 n, .str tx]) [.int .u8 n, .str tx] s1 fun _ s2 _ =>
                callS (orc vE) 37 [.mp p 0] s2 fun v s _ => unT v fun vs => nthS vs 0 fun u => unA u fun cs => unc cs fun a cs => asI .u8 a fun n => unc cs fun b cs => asS b fun tx => un0 cs (unT v fun vs => nthS vs 1 fun u => asI .i64 u fun _ => storeS (orc vE) 2 (.mp (St.h s7) 0) (.agg [.int .u8 n, .str tx]) [.int .u8 n, .str tx] s fun _ s' _ => some (Sum.inl (β := Nat × Car) ([AV.mp (St.h s7) 0], s'))))))))))
              (fun q => ∃ tk' s' v' e, q = .inl ([.mp tk' 0], s') ∧ Wd PP st0 s' p L x 0 r1 ([(tk', TO, [.int .u8 ((nx r1).1 : Int), .str (nx r1).2])] ++ (a, ND, [.int .u8 4, .int .u8 0, .str [], v']) :: [(b, ND, z4)]) [(v', es ++ [e])] ∧ IsN u e) := by
          intro kc k u r1 s5 vk hnd w
          refine Goes.load1 (a := a) (List.mem_cons_of_mem _ (List.mem_cons_of_mem _ List.mem_cons_self)) w rfl ?_
          refine Goes.load4 (List.mem_cons_self) w ?_
          refine Goes.two hnd (Goes.fit hnd fun y' hN h1 hf => Goes.one h1 (Goes.step (hf _) (Goes.app w (by simp) (by rw [IsNs.len hns]; simp; omega) fun v' s6 _ ho w => ?_)))
          refine Goes.one ho (Goes.one ho (Goes.storeF [_, _] w (Nat.le_of_ble_eq_true rfl) fun s7 _ w => ?_))
          refine Goes.renew w (tk := tk) (List.mem_cons_of_mem _ List.mem_cons_self) fun s8 w => ?_
          refine Goes.some ⟨_, s8, v', _, rfl, w.sub ?_, hN⟩
          exact List.Sublist.cons_cons _ (List.Sublist.cons _ (List.Sublist.cons _ (List.Sublist.refl _)))
        split at h
        · rename_i hb
          obtain ⟨⟨bs, r1⟩, e1, h⟩ := bind_some h
          obtain ⟨D1, e2, h⟩ := bind_some h
          cases h
          have hbd := dep_of (by omega : n ≤ 10000000) e1 rfl
          have hbl := binding_len _ _ _ _ _ e1
          have hdt := dep_take r
          refine ⟨_, r1, D1, e2, rfl, by simp only [dep_node, depL_cons]; omega, ?_, ?_⟩
          · have := P_inv (Q := fun q => q.length ≤ r.length) (fun q hq => Nat.le_trans (takeR_le q) hq) _ _ _ _ _ _ e1 (takeR_le r)
            exact this
          simp only [w24_L2, unc_cons, un0_nil, ha]
          refine Goes.step (fldA_mp _ _ _ _) ?_
          refine Goes.load1 (List.mem_cons_self) w rfl (Goes.step (asI_int _ _ _) ?_)
          refine Goes.step (eq_tf (c := true) (ne_beq (b := 0) h0) _ _) (Goes.step (ifB_true _ _) ?_)
          refine Goes.alloc w fun s1 _ w => ?_
          refine Goes.is1 w fun s2 w => ?_
          refine Goes.bind (R := fun c => ∃ s5 vk, c = ([], s5) ∧ Nd (node 5 (takeT r :: bs)) 5 0 [] vk ∧ Wd PP st0 s5 p L x 0 r1 ((s.h, ND, [.int .u8 ((5 : Nat) : Int), .int .u8 0, .str [], vk]) :: (tk, TO, [.int .u8 ((nx r).1 : Int), .str (nx r).2]) :: (a, ND, [.int .u8 4, .int .u8 0, .str [], v]) :: [(b, ND, z4)]) [(v, es)]) ?_ ?_
          · refine Goes.step (eq_tf (c := true) hb _ _) (Goes.step (ifB_true _ _) ?_)
            refine Goes.take w fun k tk' tx y s3 hnd hdt' w => ?_
            refine Goes.two hnd (Goes.fit hnd fun z1 hN1 _ _ => ?_)
            refine Goes.callW ((all_ok n (by omega)).binding s3 p L x 0 _ bs r1 w.pz (by omega) e1) rfl rfl fun v4 s4 hv => ?_
            obtain ⟨es4, ho, _, hns4, hdl4, hp4, hk4⟩ := hv
            have w4 := w.move hk4 hp4
            refine Goes.step ((IsK.own ho).elems _) (Goes.step (fits_ns hns4 _) (Goes.step (chk_of (sizes_ns hns4) _) ?_))
            have hfl := IsNs.len hns4
            refine Goes.app (w4.shut (es := [_]) (by simp)) (by
              intro e
              rw [e] at hfl
              exact hbl.2 (List.eq_nil_of_length_eq_zero hfl.symm)) (by rw [hfl]; simp; omega) fun v5 s5 _ ho5 w5 => ?_
            refine Goes.one ho5 (Goes.one ho5 ?_)
            refine Goes.store [] w5 fun s6 _ w6 => ?_
            exact Goes.some ⟨s6, v5, rfl, ⟨⟨_, _, rfl, w6.isK, IsNs.cons hN1 hns4⟩⟩, w6.drop⟩
          · rintro c ⟨s5, vk, rfl, hnd, w⟩
            refine Goes.step (un0_nil _) ?_
            exact back s.h 5 _ r1 s5 vk hnd w
        · rename_i hb
          obtain ⟨D1, e2, h⟩ := bind_some h
          cases h
          refine ⟨_, _, D1, e2, rfl, by have := skip_dep r.length r; simp only [dep_node]; omega, skip_le _ _, ?_⟩
          simp only [w24_L2, unc_cons, un0_nil, ha]
          refine Goes.step (fldA_mp _ _ _ _) ?_
          refine Goes.load1 (List.mem_cons_self) w rfl (Goes.step (asI_int _ _ _) ?_)
          refine Goes.step (eq_tf (c := true) (ne_beq (b := 0) h0) _ _) (Goes.step (ifB_true _ _) ?_)
          refine Goes.alloc w fun s1 _ w => ?_
          refine Goes.is1 w fun s2 w => ?_
          refine Goes.bind (R := fun c => ∃ s5 vk, c = ([], s5) ∧ Nd (node 3 (skip r.length r).1) 3 0 [] vk ∧ Wd PP st0 s5 p L x 0 (skip r.length r).2 ((s.h, ND, [.int .u8 ((3 : Nat) : Int), .int .u8 0, .str [], vk]) :: (tk, TO, [.int .u8 ((nx r).1 : Int), .str (nx r).2]) :: (a, ND, [.int .u8 4, .int .u8 0, .str [], v]) :: [(b, ND, z4)]) [(v, es)]) ?_ ?_
          · refine Goes.step (eq_tf (c := false) (eq_false_of_ne_true hb) _ _) (Goes.step (ifB_false _ _) ?_)
            refine Goes.storeF [] w (Nat.le_of_ble_eq_true rfl) fun s3 _ w => ?_
            refine Goes.next w fun s4 s5 w => ?_
            refine Goes.bind (skip_loop (kc := s.h) rfl r.length r _ [] [] .nils s5 _ w.nils IsNs.nil (by simp [depL_nil]) (by simp; omega) (Nat.le_refl _)) ?_
            rintro q ⟨s6, v6, es6, rfl, w6, hn6, hd6⟩
            refine Goes.step (un0_nil _) ?_
            exact Goes.some ⟨s6, v6, rfl, ⟨⟨_, _, rfl, w6.isK, by simpa using hn6⟩⟩, w6.drop⟩
          · rintro c ⟨s5, vk, rfl, hnd, w⟩
            refine Goes.step (un0_nil _) ?_
            exact back s.h 3 _ _ s5 vk hnd w
      obtain ⟨u, r1, D1, e2, rfl, hdu, hrl', q, e, tk', s', v', e1, rfl, w', hN⟩ := hst
      rw [loopO_inl e]
      refine (ihn r1 D1 tk' (ts ++ [u]) _ v' s' (by omega) e2 (by omega) w' (IsNs.app hns (isNs1 hN)) (by rw [depL_app, depL_one]; omega) (by simp; omega)).mono ?_
      rintro q ⟨s2, rE, D0, rfl, rfl, hg, hl2, hd2⟩
      exact ⟨s2, rE, u :: D0, rfl, rfl, by simpa using hg, by simpa using hl2, by simpa using hd2⟩
theorem fuel_le {r : List Tok} (h : r.length ≤ 70000) : fuel r ≤ 10000000 := by unfold fuel; omega
theorem document_ok {i : Nat} (h : PS st p L x i 0) (hi : i = 0) (hL : L.length ≤ 70000) : Goes ((orc vE).wide 24 [.mp p 0] st) (fun b => VN (doc L) b.1 ∧ depT (doc L) ≤ 1000000000000000 ∧ Keeps st b.2 (· = p)) := by
  subst hi
  obtain ⟨D, hD, hdoc⟩ := doc_tot L
  refine Goes.wide (Goes.step (w24_eq _ _) ?_)
  unfold w24
  have w := Wd.start h
  rw [List.drop_zero] at w
  refine Goes.alloc w fun s0 _ w => ?_
  refine Goes.alloc w fun s1 _ w => ?_
  refine Goes.store [] w fun s2 _ w => ?_
  refine Goes.next w fun s3 s4 w => ?_
  have hf := fuel_le hL
  refine Goes.bind (document_loop rfl (fuel L) L D _ [] [] .nils s4 hf hD (by omega) w.nils IsNs.nil (by rw [depL_nil]; omega) (by simp; omega)) ?_
  rintro q ⟨s5, rE, D0, rfl, rfl, hg, hl, hd⟩
  refine Goes.step (un0_nil _) ?_
  rw [List.nil_append] at hg hl hd
  refine hg.grow (take_nw hg.pz) rfl rfl (by omega) fun s6 hg => ?_
  rw [hdoc]
  have hdd : depT (node 4 (D0 ++ [takeT rE])) ≤ 1000000000000000 := by
    have := dep_take rE
    simp only [dep_node, depL_app, depL_one]
    omega
  refine (hg.nd.fin hdd).mono fun b hb => ⟨hb.1, hb.2.1, hb.2.2.2⟩
end
end Go.Proofs.YtkodpnfdmgbfnaaGreatDoor.Vm
/- Tokens, or why not. -/
set_option maxRecDepth 100000
namespace Go.Proofs.YtkodpnfdmgbfnaaGreatDoor.Vm
open Go Go.VM Go.Proofs Go.Lex

theorem tokens_any (s : List UInt8) : ∃ x, (orc vE).bare 23 [.str s] = some (.tup [x, .int .i64 (okS s)]) ∧ IsSl 2 x (if okS s = 0 then (tokens s).map tok else []) := by
  by_cases h1 : 65536 < s.length
  · have e : okS s = 40 := by unfold okS; rw [if_pos h1]
    exact ⟨.nils, by rw [e]; exact tokens_large h1, by rw [e]; exact IsSl.nils⟩
  · cases hv : validS s with
    | false =>
      have e : okS s = 4 := by unfold okS; rw [if_neg h1, hv]; rfl
      exact ⟨.nils, by rw [e]; exact tokens_form (by omega) hv, by rw [e]; exact IsSl.nils⟩
    | true =>
      obtain ⟨x, hx, h⟩ := tokens_ok (by omega) hv
      have e : okS s = 0 := okS_of (by omega) hv
      exact ⟨x, by rw [e]; exact hx, by rw [e]; exact h⟩
end Go.Proofs.YtkodpnfdmgbfnaaGreatDoor.Vm
/- A text's tree, by the program; steps over trees that never change. -/
set_option maxRecDepth 100000
set_option linter.unusedSimpArgs false
namespace Go.Proofs.YtkodpnfdmgbfnaaGreatDoor.Vm
open Go Go.VM Go.Proofs Go.Lex Go.Parse
theorem freeze_nd {t : T} {k tk : Nat} {tx : List UInt8} {y : AV} (h : Nd t k tk tx y) : ∃ y', IsN t (.agg [.int .u8 (k : Int), .int .u8 (tk : Int), .str tx, y']) ∧ ∀ (st : St) (n : Nat), VM.freeze st 0 (n + 2) (.agg [.int .u8 (k : Int), .int .u8 (tk : Int), .str tx, y]) = .ok (.agg [.int .u8 (k : Int), .int .u8 (tk : Int), .str tx, y']) := by
  obtain ⟨l, es, rfl, hk, hns⟩ := h.ex
  rcases hk with hx | ⟨hl, j, rfl⟩
  · refine ⟨y, by simp only [IsN]; exact ⟨y, es, rfl, hx, hns⟩, fun st n => ?_⟩
    refine fz_agg (d := 1) (fun c hc => ?_) st 0 (n + 2) (by omega)
    simp only [List.mem_cons, List.mem_nil_iff, or_false] at hc
    rcases hc with rfl | rfl | rfl | rfl
    · exact fz_int _ _
    · exact fz_int _ _
    · exact fz_str _
    · exact fz_sl hx
  · exact ⟨.sl 4 es .wide, by simp only [IsN]; exact ⟨_, es, rfl, IsSl.wide hl, hns⟩, fun st n => rfl⟩
theorem isN_one {t : T} {v : AV} (h : IsN t v) : VM.bare v = true ∧ VM.strip v = v := by
  cases t with
  | mk k tk tx l =>
    simp only [IsN] at h
    obtain ⟨x, es, rfl, hx, _⟩ := h
    refine ⟨?_, rfl⟩
    rw [bare_agg]
    simp only [bares_cons, hx.bare]
    rfl
/-- A text's tree, or none. -/
def treeOf (s : List UInt8) : T := if okS s = 0 then doc (tokens s) else .mk 0 0 [] []
theorem frz_node {t : T} {k tk : Nat} {tx : List UInt8} {y : AV} (h : Nd t k tk tx y) (n : Int) : ∃ v, IsN t v ∧ ∀ {β : Type} (st : St) (K : AV → Option β), frzS st 0 (.tup [.agg [.int .u8 (k : Int), .int .u8 (tk : Int), .str tx, y], .int .i64 n]) K = K (.tup [v, .int .i64 n]) := by
  obtain ⟨y', hN, hf⟩ := freeze_nd h
  refine ⟨_, hN, fun st K => frz_tup (allE_cons (hf st 97) (allE_cons (by exact fz_int _ _ st 0 99 (by omega)) allE_nil)) ?_ K⟩
  simp only [bares_cons, (isN_one hN).1]
  rfl
theorem nd_zero : Nd (.mk 0 0 [] []) 0 0 [] .nils := ⟨⟨[], [], rfl, .inl IsSl.nils, IsNs.nil⟩⟩
theorem parse_ok (s : List UInt8) : ∃ v, IsN (treeOf s) v ∧ depT (treeOf s) ≤ 1000000000000000 ∧ (orc vE).bare 10 [.str s] = some (.tup [v, .int .i64 (okS s)]) := by
  obtain ⟨x, e, hx⟩ := tokens_any s
  have c : ∀ {β : Type} (st : St) (K : Kv β), callS (orc vE) 23 [.str s] st K = K (.tup [x, .int .i64 (okS s)]) st q0 := fun st K => callS_bare st K rfl rfl rfl e
  have key : Goes (bareS vE 10 [.str s]) (fun b => ∃ v, b = .tup [v, .int .i64 (okS s)] ∧ IsN (treeOf s) v ∧ depT (treeOf s) ≤ 1000000000000000) := by
    refine Goes.step (g10_eq _) ?_
    unfold g10
    generalize hs0 : St.mk 1 0 (Tr.node (some (VM.Obj.cells ND z4)) Tr.leaf Tr.leaf) = st
    have hg : st.get 0 = .ok (.cells ND z4) := by rw [← hs0]; rfl
    have hh : st.h = 1 := by rw [← hs0]
    have hr : st.ro = 0 := by rw [← hs0]
    refine Goes.step (asS_str _ _) (Goes.step (c _ _) ?_)
    simp only [unT_tup, nthS_zero, nthS_one, asI_int]
    by_cases h0 : okS s = 0
    · rw [h0] at hx ⊢
      rw [if_pos rfl] at hx
      have ht : treeOf s = doc (tokens s) := by unfold treeOf; rw [if_pos h0]
      rw [ht]
      refine Goes.step (ifB_false _ _) (Goes.step (asOne_of hx.one _) (Goes.step (asOne_of hx.one _) ?_))
      rw [letSt_eq]
      have hl := (okS_zero h0).1
      have htl := tokensLen s
      generalize hs1 : st.add (VM.Obj.cells PP [x, .int .i64 0, .int .i64 0]) = st1
      have k1 : Keeps st st1 (fun _ => False) := by rw [← hs1]; exact Keeps.add _ _ _
      have g1 : st1.get st.h = .ok (.cells PP [x, .int .i64 ((0 : Nat) : Int), .int .i64 ((0 : Nat) : Int)]) := by rw [← hs1]; exact St.get_add_new
      have hp : PS st1 st.h (tokens s) x 0 0 := ⟨g1, hx, Nat.zero_le _, by omega, by rw [k1.ro, hr]; omega⟩
      refine Goes.callW (document_ok hp rfl (by omega)) rfl rfl fun v s2 hv => ?_
      obtain ⟨hv, hd, hk⟩ := hv
      have g2 : s2.get 0 = .ok (.cells ND z4) := hk.of_ne (by omega) (k1.old _ _ (fun f => f) hg)
      obtain ⟨k, tk, tx, y, rfl, hnd⟩ := hv.cells
      refine Goes.step (unN_agg ..) (Goes.two hnd ?_)
      obtain ⟨s3, g3, _, _, fx, e3⟩ := pvN g2 rfl (k : Int) (tk : Int) tx y (by rw [hk.ro, k1.ro, hr]; omega)
      refine Goes.step (e3 _) (Goes.step (loadS_mp g3 _ _ _ _) (Goes.step (bindO_ok _ _) (Goes.step (unN_agg ..) ?_)))
      obtain ⟨w, hN, hf⟩ := frz_node hnd 0
      exact Goes.step (hf _ _) (Goes.some ⟨w, rfl, hN, hd⟩)
    · have ht : treeOf s = .mk 0 0 [] [] := by unfold treeOf; rw [if_neg h0]
      rw [ht]
      refine Goes.step (eq_tf (c := true) (by simpa using h0) _ _) (Goes.step (ifB_true _ _) ?_)
      obtain ⟨s3, g3, _, _, fx, e3⟩ := pvN hg rfl 0 0 [] .nils (by rw [hr]; omega)
      refine Goes.step (e3 _) (Goes.step (loadS_mp g3 _ _ _ _) (Goes.step (bindO_ok _ _) (Goes.step (unN_agg ..) ?_)))
      obtain ⟨w, hN, hf⟩ := frz_node nd_zero (okS s)
      exact Goes.step (hf _ _) (Goes.some ⟨w, rfl, hN, by simp [depT, depL]⟩)
  obtain ⟨b, e, v, rfl, h1, h2⟩ := key
  exact ⟨v, h1, h2, bare_of rfl e⟩
section
variable {β : Type} {Q : β → Prop} {st : St} {t : T}
theorem call_parse (s : List UInt8) : ∃ v, IsN (treeOf s) v ∧ depT (treeOf s) ≤ 1000000000000000 ∧ ∀ {β : Type} (st : St) (K : Kv β), callS (orc vE) 10 [.str s] st K = K (.tup [v, .int .i64 (okS s)]) st q0 := by
  obtain ⟨v, h, hd, e⟩ := parse_ok s
  exact ⟨v, h, hd, fun st K => callS_bare st K rfl rfl rfl e⟩
/-- A tree's parts. -/
theorem isN_open {t : T} {v : AV} (h : IsN t v) : ∃ (k tk : Nat) (tx : List UInt8) (l : List T) (x : AV) (es : List AV), t = .mk k tk tx l ∧ v = .agg [.int .u8 (k : Int), .int .u8 (tk : Int), .str tx, x] ∧ IsSl 4 x es ∧ IsNs l es := by
  cases t with
  | mk k tk tx l =>
    simp only [IsN] at h
    obtain ⟨x, es, rfl, hx, hs⟩ := h
    exact ⟨k, tk, tx, l, x, es, rfl, rfl, hx, hs⟩
theorem IsNs.at : ∀ {l : List T} {es : List AV} {k : Nat} {t : T}, IsNs l es → l[k]? = some t → ∃ e, es[k]? = some e ∧ IsN t e
  | [], _, _, _, _, hk => by simp at hk
  | t :: l, _, 0, _, h, hk => by
    simp only [IsNs] at h
    obtain ⟨a, r, rfl, h1, h2⟩ := h
    obtain rfl : t = _ := by simpa using hk
    exact ⟨a, rfl, h1⟩
  | t :: l, _, k + 1, t', h, hk => by
    simp only [IsNs] at h
    obtain ⟨a, r, rfl, h1, h2⟩ := h
    obtain ⟨e, he, hi⟩ := IsNs.at (k := k) (t := t') h2 (by simpa using hk)
    exact ⟨e, by simpa using he, hi⟩
/-- One of the Kids. -/
theorem kid_at {l : List T} {x : AV} {es : List AV} {k : Nat} (hx : IsSl 4 x es) (hs : IsNs l es) (hk : l[k]? = some t) : ∃ (a b : Nat) (s : List UInt8) (y : AV), IsN t (.agg [.int .u8 (a : Int), .int .u8 (b : Int), .str s, y]) ∧ ∀ {β : Type} (st : St) (K : Int → Int → List UInt8 → AV → Option β), (idxA 4 x (k : Int) st fun u _ => loadS 4 true u st fun u _ => unN u K) = K (a : Int) (b : Int) s y := by
  obtain ⟨e, he, hN⟩ := hs.at hk
  obtain ⟨a, b, s, ll, y, es', rfl, rfl, hy, hys⟩ := isN_open hN
  refine ⟨a, b, s, y, hN, fun st K => ?_⟩
  rw [hx.idx he, cells_agg, loadS_ip, takeO4, bindO_ok, unN_agg]
/-- The same, by the tree's parts. -/
theorem T.ind {Pr : T → Prop} (h : ∀ k tk tx l, (∀ t ∈ l, Pr t) → Pr (.mk k tk tx l)) : ∀ t, Pr t := by
  intro t
  have key : ∀ n (t : T), SizeOf.sizeOf t < n → Pr t := by
    intro n
    induction n with
    | zero => intro t ht; omega
    | succ n ih =>
      intro t ht
      cases t with
      | mk k tk tx l =>
        refine h k tk tx l fun u hu => ih u ?_
        have := List.sizeOf_lt_of_mem hu
        simp only [T.mk.sizeOf_spec] at ht
        omega
  exact key _ t (Nat.lt_succ_self _)
end
end Go.Proofs.YtkodpnfdmgbfnaaGreatDoor.Vm
/- What is asked of trees: whether they are in order, their text, their shape. -/
set_option maxRecDepth 100000
set_option linter.unusedSimpArgs false
namespace Go.Proofs.YtkodpnfdmgbfnaaGreatDoor.Vm
open Go Go.VM Go.Proofs Go.Lex Go.Parse
section
variable {β : Type} {Q : β → Prop}
abbrev S0 : St := St.mk 0 0 Tr.leaf
theorem callT {F : FuncId} {t : T} {v r : AV} (hN : IsN t v) (hf : vE.full F = false) (h : (orc vE).bare F [v] = some r) {β : Type} (st : St) (K : Kv β) : callS (orc vE) F [v] st K = K r st q0 :=
  callS_bare st K hf (by simp only [List.map_cons, List.map_nil, (isN_one hN).2]) (by simp only [bares_cons, (isN_one hN).1]; rfl) h
theorem ns_len {l : List T} {x : AV} {es : List AV} (hx : IsSl 4 x es) (hs : IsNs l es) {γ : Type} (K : Nat → Option γ) : lenS x K = K l.length := by rw [hx.len, hs.len]
theorem ns_lt {l : List T} {x : AV} {es : List AV} (hx : IsSl 4 x es) (hs : IsNs l es) : l.length ≤ 9223372036854775807 := by rw [← hs.len]; exact hx.1
end
end Go.Proofs.YtkodpnfdmgbfnaaGreatDoor.Vm
/- What is asked of trees: how many of a kind, text, shape, other blanks. -/
set_option maxRecDepth 100000
set_option linter.unusedSimpArgs false
namespace Go.Proofs.YtkodpnfdmgbfnaaGreatDoor.Vm
open Go Go.VM Go.Proofs Go.Lex Go.Parse
section
variable {β : Type} {Q : β → Prop}
theorem callT2 {F : FuncId} {t : T} {v u r : AV} (hN : IsN t v) (hu : VM.bare u = true) (hsu : VM.strip u = u) (hf : vE.full F = false) (h : (orc vE).bare F [v, u] = some r) {β : Type} (st : St) (K : Kv β) : callS (orc vE) F [v, u] st K = K r st q0 :=
  callS_bare st K hf (by simp only [List.map_cons, List.map_nil, (isN_one hN).2, hsu]) (by simp only [bares_cons, (isN_one hN).1, hu]; rfl) h
theorem shape_loop {l : List T} {x : AV} {es : List AV} (hx : IsSl 4 x es) (hs : IsNs l es) (hg : ∀ t ∈ l, ∀ v, IsN t v → (shapeT t).length ≤ 1000000000000 → (orc vE).bare 13 [v] = some (.str (shapeT t))) (st : St) : ∀ (m : List T) (j : Nat) (out : List UInt8), l.drop j = m → out.length + (shapeL m).length ≤ 1000000000000 →
    loopO (g13_L1 x) ([.str out, .int .i64 (j : Int)], st) = some (0, [.str (out ++ shapeL m)], st)
  | [], j, out, hd, hl => by
    have := List.drop_eq_nil_iff.1 hd
    have q : ¬ (j : Int) < (l.length : Int) := by omega
    refine loopO_inr ?_
    simp only [g13_L1, unc_cons, asI_int, asS_str, un0_nil, ns_len hx hs, ifB_decide, if_neg q, shapeL, List.append_nil]
  | t :: m, j, out, hd, hl => by
    obtain ⟨hgt, hr, hlt⟩ := drop_cons hd
    have q : (j : Int) < (l.length : Int) := by omega
    have hlen := ns_lt hx hs
    have hsl : shapeL (t :: m) = [32] ++ shapeT t ++ shapeL m := by simp [shapeL]
    rw [hsl, List.length_append, List.length_append, List.length_singleton] at hl
    obtain ⟨a, b, s, y, hN, e⟩ := kid_at hx hs hgt
    have c := fun {γ : Type} (st : St) (K : Kv γ) => callT hN rfl (hg t (List.mem_of_getElem? hgt) _ hN (by omega)) st K
    rw [hsl, ← List.append_assoc, ← List.append_assoc, loopO_inl (s' := ([.str (out ++ [32] ++ shapeT t), .int .i64 ((j + 1 : Nat) : Int)], st)), shape_loop hx hs hg st m (j + 1) (out ++ [32] ++ shapeT t) hr (by simp only [List.length_append, List.length_singleton]; omega)]
    simp only [g13_L1, unc_cons, asI_int, asS_str, un0_nil, ns_len hx hs, ifB_decide, if_pos q, ble_of (show out.length + 1 ≤ 9223372036854775807 by omega), chk_true, letV_eq]
    refine (e st _).trans ?_
    simp only [c, asS_str, letV_eq, ble_of (show (out ++ [32]).length + (shapeT t).length ≤ 9223372036854775807 by simp only [List.length_append, List.length_singleton]; omega), chk_true, wrapA1 (show j + 1 ≤ 9223372036854775807 by omega)]
theorem kind_byte (k : Nat) : UInt8.ofNat (Int.toNat (IntKind.wrap .u8 (97 + (k : Int)))) = UInt8.ofNat (97 + k) := by
  have h : IntKind.wrap .u8 (97 + (k : Int)) = ((97 + k : Nat) : Int) % 256 := by
    rw [show (97 : Int) + (k : Int) = ((97 + k : Nat) : Int) by omega]
    rfl
  rw [h, show ((97 + k : Nat) : Int) % 256 = (((97 + k) % 256 : Nat) : Int) by omega, Int.toNat_natCast]
  apply UInt8.toNat_inj.1
  simp
theorem tshape_ok : ∀ (t : T) (v : AV), IsN t v → (shapeT t).length ≤ 1000000000000 → (orc vE).bare 13 [v] = some (.str (shapeT t)) := by
  refine T.ind fun k tk tx l ih v hv hl => ?_
  simp only [IsN] at hv
  obtain ⟨x, es, rfl, hx, hs⟩ := hv
  have e1 : ((k : Int) == 1) = (k == 1) := nat_beq k 1
  have e2 : ((k : Int) == 2) = (k == 2) := nat_beq k 2
  refine bare_of rfl ((g13_eq _).trans ?_)
  simp only [g13, unA_agg, unc_cons, asI_int, asS_str, un0_nil, hx.asOne, hx.fit1, e1, e2, letV_eq, kind_byte]
  simp only [shapeT] at hl ⊢
  by_cases h1 : k = 1
  · rw [if_pos h1]
    simp only [beq_iff_eq.2 h1, ifB_true]
  rw [if_neg h1] at hl ⊢
  by_cases h2 : k = 2
  · rw [if_pos h2] at hl ⊢
    simp only [List.length_cons] at hl
    simp only [beq_eq_false_iff_ne.2 h1, beq_iff_eq.2 h2, ifB_true, ifB_false, ble_of (show 1 + tx.length ≤ 9223372036854775807 by omega), chk_true]
  rw [if_neg h2] at hl ⊢
  simp only [List.length_cons, List.length_append, List.length_nil] at hl
  have lp := shape_loop hx hs ih S0 l 0 [40, UInt8.ofNat (97 + k)] rfl (by simp only [List.length_cons, List.length_nil]; omega)
  have lp : loopO (g13_L1 x) ([.str [40, UInt8.ofNat (97 + k)], .int .i64 0], S0) = _ := lp
  simp only [beq_eq_false_iff_ne.2 h1, beq_eq_false_iff_ne.2 h2, ifB_false, List.length_singleton, show Nat.ble (1 + 1) 9223372036854775807 = true from rfl, chk_true, lp, bindO_ok, unc_cons, asS_str, un0_nil, ble_of (show ([40, UInt8.ofNat (97 + k)] ++ shapeL l).length + 1 ≤ 9223372036854775807 by simp only [List.length_cons, List.length_append, List.length_nil]; omega)]
  rfl
theorem bdL_nil_iff {l : List T} : bdL l = [] ↔ ∀ t ∈ l, bdT t = [] := by
  induction l with
  | nil => simp [bdL]
  | cons t l ih => simp [bdL, ih]
def isBad (t : T) : Bool := !(bdT t).isEmpty
theorem isBad_mk (k tk : Nat) (tx : List UInt8) (l : List T) : isBad (.mk k tk tx l) = ((k == 1 && tk == 9) || l.any isBad) := by
  rw [Bool.eq_iff_iff]
  simp only [isBad, bdT, Bool.not_eq_true', List.isEmpty_eq_false_iff, ne_eq, List.append_eq_nil_iff, Bool.or_eq_true, Bool.and_eq_true, beq_iff_eq, List.any_eq_true]
  rw [bdL_nil_iff]
  constructor
  · intro h
    by_cases h1 : k = 1 ∧ tk = 9
    · exact .inl h1
    · right
      rw [if_neg h1] at h
      simp only [and_true] at h
      obtain ⟨t, ht⟩ := Classical.not_forall.1 h
      obtain ⟨hm, hb⟩ := Classical.not_imp.1 ht
      exact ⟨t, hm, hb⟩
  · rintro (h1 | ⟨t, hm, hb⟩) ⟨h2, h3⟩
    · rw [if_pos h1] at h3; cases h3
    · exact hb (h2 t hm)
theorem tbad_loop {l : List T} {x : AV} {es : List AV} (hx : IsSl 4 x es) (hs : IsNs l es) (hg : ∀ t ∈ l, ∀ v, IsN t v → (orc vE).bare 11 [v] = some (.bool (isBad t))) (st : St) : ∀ (m : List T) (j : Nat), l.drop j = m →
    ∃ b, loopO (g11_L1 x) ([.bool false, .int .i64 (j : Int)], st) = some (if m.any isBad then 1 else 0, [.bool b], st) ∧ (m.any isBad = true → b = true)
  | [], j, hd => by
    have := List.drop_eq_nil_iff.1 hd
    have q : ¬ (j : Int) < (l.length : Int) := by omega
    refine ⟨false, loopO_inr ?_, fun h => by cases h⟩
    simp only [g11_L1, unc_cons, asI_int, asB_bool, un0_nil, ns_len hx hs, ifB_decide, if_neg q]
    rfl
  | t :: m, j, hd => by
    obtain ⟨hgt, hr, hlt⟩ := drop_cons hd
    have q : (j : Int) < (l.length : Int) := by omega
    have hlen := ns_lt hx hs
    obtain ⟨a, b, s, y, hN, e⟩ := kid_at hx hs hgt
    have c := fun {γ : Type} (st : St) (K : Kv γ) => callT hN rfl (hg t (List.mem_of_getElem? hgt) _ hN) st K
    have e' : g11_L1 x ([.bool false, .int .i64 (j : Int)], st) = ifB (isBad t) (some (.inr (1, [.bool true], st))) (some (.inl ([.bool false, .int .i64 ((j + 1 : Nat) : Int)], st))) := by
      simp only [g11_L1, unc_cons, asI_int, asB_bool, un0_nil, ns_len hx hs, ifB_decide, if_pos q]
      refine (e st _).trans ?_
      simp only [c, asB_bool, letV_eq, wrapA1 (show j + 1 ≤ 9223372036854775807 by omega)]
    cases ht : isBad t with
    | true =>
      rw [ht] at e'
      exact ⟨true, by rw [loopO_inr e']; simp [ht], fun _ => rfl⟩
    | false =>
      rw [ht] at e'
      obtain ⟨b, h1, h2⟩ := tbad_loop hx hs hg st m (j + 1) hr
      exact ⟨b, by rw [loopO_inl e', h1]; simp [ht], by simpa [ht] using h2⟩
theorem tbad_ok : ∀ (t : T) (v : AV), IsN t v → (orc vE).bare 11 [v] = some (.bool (isBad t)) := by
  refine T.ind fun k tk tx l ih v hv => ?_
  simp only [IsN] at hv
  obtain ⟨x, es, rfl, hx, hs⟩ := hv
  have e1 : ((k : Int) == 1) = (k == 1) := nat_beq k 1
  have e9 : ((tk : Int) == 9) = (tk == 9) := nat_beq tk 9
  obtain ⟨b, lp, hb⟩ := tbad_loop hx hs ih S0 l 0 rfl
  have lp : loopO (g11_L1 x) ([.bool false, .int .i64 0], S0) = _ := lp
  have fin : bindO (loopO (g11_L1 x) ([.bool false, .int .i64 0], S0)) (fun c48 : Nat × Car => unc (Prod.fst (Prod.snd c48)) fun v49 l50 => asB v49 fun b51 => un0 l50 (sel2 (Prod.fst c48) (some (AV.bool false)) fun _x => some (AV.bool b51))) = some (.bool (l.any isBad)) := by
    rw [lp]
    cases h : l.any isBad with
    | true => rw [hb h]; rfl
    | false => rfl
  refine bare_of rfl ((g11_eq _).trans ?_)
  rw [isBad_mk]
  simp only [g11, unA_agg, unc_cons, asI_int, asS_str, un0_nil, hx.asOne, hx.fit1, e1, e9]
  cases h1 : k == 1 <;> simp only [ifB_true, ifB_false, bindO_ok, unc_cons, asB_bool, un0_nil, Bool.false_and, Bool.true_and, Bool.false_or]
  · exact fin
  cases h9 : tk == 9 <;> simp only [ifB_true, ifB_false, bindO_ok, unc_cons, asB_bool, un0_nil, Bool.false_or, Bool.true_or]
  exact fin
end
end Go.Proofs.YtkodpnfdmgbfnaaGreatDoor.Vm
/- Other blanks, how many nodes, the shape of a text's tree; awake. -/
set_option maxRecDepth 100000
set_option linter.unusedSimpArgs false
namespace Go.Proofs.YtkodpnfdmgbfnaaGreatDoor.Vm
open Go Go.VM Go.Proofs Go.Lex Go.Parse
section
variable {β : Type} {Q : β → Prop} {st : St} {l : Vrs}
theorem blanked_loop {B : List UInt8} {l : List T} {x : AV} {es : List AV} (hx : IsSl 4 x es) (hs : IsNs l es) (hg : ∀ t ∈ l, ∀ v, IsN t v → (blT B t).length ≤ 1000000000000 → (orc vE).bare 12 [v, .str B] = some (.str (blT B t))) : ∀ (m : List T) (j : Nat) (out : List UInt8) (st : St), st.ro ≤ st.h → l.drop j = m → out.length + (blL B m).length ≤ 1000000000000 →
    Goes (loopO (g12_L1 B x) ([.str out, .int .i64 (j : Int)], st)) (fun q => ∃ s', q = (0, [.str (out ++ blL B m)], s'))
  | [], j, out, st, hro, hd, hl => by
    have := List.drop_eq_nil_iff.1 hd
    have q : ¬ (j : Int) < (l.length : Int) := by omega
    refine ⟨(0, [.str (out ++ blL B [])], st), loopO_inr ?_, st, rfl⟩
    simp only [blL, List.append_nil, g12_L1, unc_cons, asI_int, asS_str, un0_nil, ns_len hx hs, ifB_decide, if_neg q]
  | t :: m, j, out, st, hro, hd, hl => by
    obtain ⟨hgt, hr, hlt⟩ := drop_cons hd
    have q : (j : Int) < (l.length : Int) := by omega
    have hlen := ns_lt hx hs
    rw [blL_cons, List.length_append] at hl
    obtain ⟨a, b, s, y, hN, e⟩ := kid_at hx hs hgt
    have hmem := List.mem_of_getElem? hgt
    obtain ⟨a', b', s', ll, y', es', ht, hv, hy, hys⟩ := isN_open hN
    have hyy : a = a' ∧ b = b' ∧ y = y' := by
      injection hv with hv
      have h1 := List.cons.inj hv
      have h2 := List.cons.inj h1.2
      have h3 := List.cons.inj h2.2
      have h4 := List.cons.inj h3.2
      have e1 := h1.1
      have e2 := h2.1
      simp only [AV.int.injEq, true_and] at e1 e2
      exact ⟨by omega, by omega, h4.1⟩
    obtain ⟨rfl, rfl, rfl⟩ := hyy
    have e1 : ((a : Int) == 1) = (a == 1) := nat_beq a 1
    have e2 : ((b : Int) == 1) = (b == 1) := nat_beq b 1
    have hgo : Goes (g12_L1 B x ([.str out, .int .i64 (j : Int)], st)) (fun q => ∃ s', q = .inl ([.str (out ++ bl1 B t), .int .i64 ((j + 1 : Nat) : Int)], s') ∧ s'.ro ≤ s'.h) := by
      simp only [g12_L1, unc_cons, asI_int, asS_str, un0_nil, ns_len hx hs, ifB_decide, if_pos q]
      refine Goes.bind (R := fun c => ∃ s', c = .inl ([.str (out ++ bl1 B t)], s') ∧ s'.ro ≤ s'.h) ?_ ?_
      · refine Goes.step (e st _) ?_
        refine Goes.valloc (Vw.start hro) fun s1 _ w => Goes.step (hy.asOne _) ?_
        refine Goes.vstore [] w fun s2 _ _ w => ?_
        refine Goes.bind (R := fun c => ∃ s', c = ([.bool (a == 1 && b == 1)], s') ∧ Vw s' [(st.h, ND, [.int .u8 (a : Int), .int .u8 (b : Int), .str s, y])]) ?_ ?_
        · refine Goes.vload1 (List.mem_cons_self) w rfl (Goes.step (asI_int _ _ _) ?_)
          rw [e1]
          cases h1 : a == 1
          · exact Goes.some ⟨s2, rfl, w⟩
          · refine Goes.step (ifB_true _ _) (Goes.vload1 (List.mem_cons_self) w rfl (Goes.step (asI_int _ _ _) ?_))
            rw [e2]
            exact Goes.some ⟨s2, rfl, w⟩
        · rintro c ⟨s3, rfl, w⟩
          simp only [unc_cons, asB_bool, un0_nil]
          have hb1 : bl1 B t = if a = 1 ∧ b = 1 then B else blT B t := by rw [ht]; rfl
          by_cases hab : a = 1 ∧ b = 1
          · rw [if_pos hab] at hb1
            rw [hb1] at hl ⊢
            have hab' : (a == 1 && b == 1) = true := by simp [hab.1, hab.2]
            rw [hab']
            refine Goes.step (ifB_true _ _) (Goes.step (chk_of (ble_of (by omega)) _) (Goes.step (letV_eq _ _) (Goes.some ⟨s3, rfl, w.ro⟩)))
          · rw [if_neg hab] at hb1
            rw [hb1] at hl ⊢
            have hab' : (a == 1 && b == 1) = false := by
              rw [Bool.eq_false_iff]
              intro h
              simp only [Bool.and_eq_true, beq_iff_eq] at h
              exact hab h
            rw [hab']
            refine Goes.step (ifB_false _ _) (Goes.vload (List.mem_cons_self) w rfl ?_)
            simp only [unA_agg, unc_cons, asI_int, asS_str, un0_nil, callT2 (u := .str B) hN rfl rfl rfl (hg t hmem _ hN (by omega)), ble_of (show out.length + (blT B t).length ≤ 9223372036854775807 by omega), chk_true, letV_eq]
            exact Goes.some ⟨s3, rfl, w.ro⟩
      · rintro c ⟨s3, rfl, hro3⟩
        simp only [onSum_inl, unc_cons, asS_str, un0_nil, letV_eq, wrapA1 (show j + 1 ≤ 9223372036854775807 by omega)]
        exact Goes.some ⟨s3, rfl, hro3⟩
    obtain ⟨q2, e3, s3, rfl, hro3⟩ := hgo
    rw [loopO_inl e3]
    refine (blanked_loop hx hs hg m (j + 1) _ s3 hro3 hr (by rw [List.length_append]; omega)).mono ?_
    rintro q3 ⟨s4, rfl⟩
    exact ⟨s4, by rw [blL_cons, List.append_assoc]⟩
theorem blanked_ok (B : List UInt8) : ∀ (t : T) (v : AV), IsN t v → (blT B t).length ≤ 1000000000000 → (orc vE).bare 12 [v, .str B] = some (.str (blT B t)) := by
  refine T.ind fun k tk tx l ih v hv hl => ?_
  simp only [IsN] at hv
  obtain ⟨x, es, rfl, hx, hs⟩ := hv
  simp only [blT, List.length_append] at hl ⊢
  obtain ⟨q, lp, s', rfl⟩ := blanked_loop hx hs ih l 0 [] S0 (Nat.le_refl _) rfl (by simp only [List.length_nil]; omega)
  have lp : loopO (g12_L1 B x) ([.str [], .int .i64 0], S0) = _ := lp
  have e1 : ((k : Int) == 1) = (k == 1) := nat_beq k 1
  refine bare_of rfl ((g12_eq _ _).trans ?_)
  simp only [g12, unA_agg, unc_cons, asI_int, asS_str, un0_nil, hx.asOne, hx.fit1, lp, bindO_ok, List.nil_append, e1]
  by_cases h : k = 1
  · rw [if_pos h] at hl ⊢
    simp only [beq_iff_eq.2 h, ifB_true, ble_of (show (blL B l).length + tx.length ≤ 9223372036854775807 by omega), chk_true, letV_eq, bindO_ok, unc_cons, asS_str, un0_nil]
  · rw [if_neg h]
    simp only [beq_eq_false_iff_ne.2 h, ifB_false, bindO_ok, unc_cons, asS_str, un0_nil, List.append_nil]
/-- A text's tree, in a variable. -/
theorem _root_.Go.VM.Goes.parseV (s : List UInt8) (w : Vw st l) {K : Int → St → St → Option β} (g : ∀ (s2 : St) (k tk : Nat) (tx : List UInt8) (y : AV), IsN (treeOf s) (.agg [.int .u8 (k : Int), .int .u8 (tk : Int), .str tx, y]) → Vw s2 ((st.h, ND, [.int .u8 (k : Int), .int .u8 (tk : Int), .str tx, y]) :: l) → Goes (K (okS s) st s2) Q) :
    Goes (callS (orc vE) 10 [.str s] st fun v s1 _ => unT v fun vs => nthS vs 0 fun u => unA u fun cs => unc cs fun v1 cs => asI .u8 v1 fun a => unc cs fun v2 cs => asI .u8 v2 fun b => unc cs fun v3 cs => asS v3 fun tx => unc cs fun y cs => un0 cs (unT v fun vs => nthS vs 1 fun u => asI .i64 u fun e => letSt (St.add s1 (.cells ND z4)) fun s2 =>
      asOne y (storeS (orc vE) 4 (.mp (St.h s1) 0) (.agg [.int .u8 a, .int .u8 b, .str tx, y]) [.int .u8 a, .int .u8 b, .str tx, y] s2 fun _ s3 _ => K e s1 s3))) Q := by
  obtain ⟨v, hN, _, e⟩ := call_parse s
  refine Goes.step (e _ _) ?_
  obtain ⟨k, tk, tx, l', x, es, ht, rfl, hx, hs⟩ := isN_open hN
  simp only [unT_tup, nthS_zero, nthS_one, unA_agg, unc_cons, asI_int, asS_str, un0_nil]
  refine Goes.valloc w fun s1 _ w1 => Goes.step (hx.asOne _) ?_
  exact Goes.vstore [] w1 fun s2 _ _ w2 => g s2 k tk tx x hN w2
theorem Wt_le : ∀ (r : List Tok), Wt r = 100 * r.length + (bytesL r).length
  | [] => rfl
  | t :: r => by
    rw [Wt, Wt_le r, Parse.bytesL_cons, List.length_append, List.length_cons]
    omega
theorem shape_len {s : List UInt8} (h : okS s = 0) : (shapeT (treeOf s)).length ≤ 1000000000 := by
  unfold treeOf
  rw [if_pos h]
  have h1 := doc_sz (tokens s)
  rw [Wt_le, bytes_tokens] at h1
  have h2 := (okS_zero h).1
  have h3 := tokensLen s
  omega
def ofS (s : List UInt8) : List UInt8 := if okS s = 0 then shapeT (doc (tokens s)) else []
theorem of_ok (s : List UInt8) : (orc vE).bare 20 [.str s] = some (.str (ofS s)) := by
  refine bare_of rfl (Goes.eq (Goes.step (g20_eq _) ?_))
  unfold g20
  refine Goes.step (asS_str _ _) ?_
  refine Goes.parseV s (Vw.start (Nat.le_refl _)) fun s2 k tk tx y hN w => ?_
  unfold ofS
  by_cases h : okS s = 0
  · rw [if_pos h, h]
    refine Goes.step (ifB_false _ _) (Goes.vload (List.mem_cons_self) w rfl ?_)
    have hl := shape_len h
    have c := tshape_ok _ _ hN (by omega)
    simp only [unA_agg, unc_cons, asI_int, asS_str, un0_nil, callT hN rfl c]
    refine Goes.some ?_
    unfold treeOf
    rw [if_pos h]
  · rw [if_neg h]
    exact Goes.step (eq_tf (c := true) (by simpa using h) _ _) (Goes.some rfl)
def aw1 : List UInt8 := [108, 101, 116, 32, 120, 32, 61, 32, 49]
def aw2 : List UInt8 := [108, 101, 116, 32, 102, 32, 97, 32, 98, 32, 61, 32, 97, 32, 43, 32, 98, 32, 42, 32, 50]
theorem aw1_of : ofS aw1 = [40, 101, 32, 40, 102, 32, 108, 101, 116, 32, 120, 32, 61, 32, 49, 41, 32, 41] := by decide +kernel
theorem aw2_of : ofS aw2 = [40, 101, 32, 40, 102, 32, 108, 101, 116, 32, 102, 32, 97, 32, 98, 32, 61, 32, 40, 108, 32, 97, 32, 43, 32, 40, 108, 32, 98, 32, 42, 32, 50, 41, 41, 41, 32, 41] := by decide +kernel
theorem awake_ok : (orc vE).bare 9 [] = some (.bool true) := by
  refine bare_of rfl (g9_eq.trans ?_)
  have c1 := fun {γ : Type} (st : St) (K : Kv γ) => callS_bare st K rfl rfl rfl (of_ok aw1)
  have c2 := fun {γ : Type} (st : St) (K : Kv γ) => callS_bare st K rfl rfl rfl (of_ok aw2)
  rw [aw1_of] at c1
  rw [aw2_of] at c2
  unfold aw1 at c1
  unfold aw2 at c2
  simp only [g9, c1, c2, asS_str, BEq.rfl, ifB_true, bindO_ok, unc_cons, asB_bool, un0_nil]
theorem call_awake {γ : Type} (st : St) (K : Kv γ) : callS (orc vE) 9 [] st K = K (.bool true) st q0 := callS_bare st K rfl rfl rfl awake_ok
end
end Go.Proofs.YtkodpnfdmgbfnaaGreatDoor.Vm
/- The laws of Parse: in order; nothing is lost. -/
set_option maxRecDepth 100000
set_option linter.unusedSimpArgs false
namespace Go.Proofs.YtkodpnfdmgbfnaaGreatDoor.Vm
open Go Go.VM Go.Proofs Go.Lex Go.Parse
end Go.Proofs.YtkodpnfdmgbfnaaGreatDoor.Vm
/- The laws of Parse: blanks of another kind; two documents. -/
set_option maxRecDepth 100000
set_option linter.unusedSimpArgs false
namespace Go.Proofs.YtkodpnfdmgbfnaaGreatDoor.Vm
open Go Go.VM Go.Proofs Go.Lex Go.Parse
/-- The blanks of a number. -/
def blankN : Nat → List UInt8
  | 0 => [32]
  | 1 => [10]
  | 2 => [9, 32, 13, 10]
  | _ => [32, 32, 32, 32]
theorem blankN_ok (n : Nat) : blankN n ≠ [] ∧ wh isBlank (blankN n) = (blankN n).length ∧ validS (blankN n) = true ∧ (blankN n).length ≤ 4 := by
  match n with
  | 0 => decide
  | 1 => decide
  | 2 => decide
  | n + 3 =>
    have h : ([32, 32, 32, 32] : List UInt8) ≠ [] ∧ wh isBlank [32, 32, 32, 32] = ([32, 32, 32, 32] : List UInt8).length ∧ validS [32, 32, 32, 32] = true ∧ ([32, 32, 32, 32] : List UInt8).length ≤ 4 := by decide
    exact h
theorem blank_idx (n : Nat) {β : Type} (st : St) (K : AV → List Nat → Option β) : idxA 1 (.sl 1 [.str [32], .str [10], .str [9, 32, 13, 10], .str [32, 32, 32, 32]] .shut) (Int.tmod (n : Int) 4) st K = K (.ip [.str (blankN (n % 4))]) [] := by
  rw [show Int.tmod (n : Int) 4 = ((n % 4 : Nat) : Int) from rfl]
  have h : n % 4 < 4 := Nat.mod_lt _ (by omega)
  generalize n % 4 = m at h
  match m, h with
  | 0, _ => rfl
  | 1, _ => rfl
  | 2, _ => rfl
  | 3, _ => rfl
theorem bytesB_len (B : List UInt8) (hB : B.length ≤ 4) : ∀ r : List Tok, (bytesB B r).length ≤ 4 * r.length + (bytesL r).length
  | [] => Nat.le_refl _
  | t :: r => by
    have := bytesB_len B hB r
    rw [bytesB_cons, Parse.bytesL_cons, List.length_append, List.length_append, List.length_cons]
    have h : (reB B t).2.length ≤ 4 + t.2.length := by
      unfold reB
      split
      · show B.length ≤ _; omega
      · omega
    omega
theorem law_blanks (s : List UInt8) (n : Nat) : (orc vE).bare 3 [.str s, .int .u8 (n : Int)] = some (.bool true) := by
  refine bare_of rfl (Goes.eq (Goes.step (g3_eq _ _) ?_))
  unfold g3
  refine Goes.step (asS_str _ _) (Goes.step (asI_int _ _ _) ?_)
  refine Goes.bind (R := fun c => ∃ b, c = ([.bool b], S0)) ?_ ?_
  · cases hd : decide ((s.length : Int) > 3000)
    · refine Goes.step (ifB_false _ _) (Goes.step (call_awake _ _) (Goes.step (asB_bool _ _) (Goes.some ⟨_, rfl⟩)))
    · exact Goes.step (ifB_true _ _) (Goes.some ⟨_, rfl⟩)
  rintro c ⟨b, rfl⟩
  simp only [unc_cons, asB_bool, un0_nil]
  cases b with
  | true => exact Goes.step (ifB_true _ _) (Goes.step (call_awake _ _) (Goes.step (asB_bool _ _) (Goes.some rfl)))
  | false =>
    refine Goes.step (ifB_false _ _) ?_
    refine Goes.parseV s (Vw.start (Nat.le_refl _)) fun s2 k tk tx y hN w => ?_
    refine Goes.bind (R := fun c => c = ([.bool (decide (okS s ≠ 0) || isBad (treeOf s))], s2)) ?_ ?_
    · by_cases h : okS s = 0
      · rw [h]
        refine Goes.step (ifB_false _ _) (Goes.vload (List.mem_cons_self) w rfl ?_)
        simp only [unA_agg, unc_cons, asI_int, asS_str, un0_nil, callT hN rfl (tbad_ok _ _ hN), asB_bool]
        exact Goes.some (by simp)
      · refine Goes.step (eq_tf (c := true) (by simpa using h) _ _) (Goes.step (ifB_true _ _) (Goes.some (by simp [h])))
    rintro c rfl
    simp only [unc_cons, asB_bool, un0_nil]
    cases hb : decide (okS s ≠ 0) || isBad (treeOf s) with
    | true => exact Goes.step (ifB_true _ _) (Goes.some rfl)
    | false =>
      simp only [Bool.or_eq_false_iff, decide_eq_false_iff_not, ne_eq, Decidable.not_not] at hb
      obtain ⟨h0, hbad⟩ := hb
      obtain ⟨hs, hv⟩ := okS_zero h0
      have ht : treeOf s = doc (tokens s) := by unfold treeOf; rw [if_pos h0]
      have hbd : bdT (doc (tokens s)) = [] := by
        rw [ht] at hbad
        simpa [isBad] using hbad
      obtain ⟨b1, b2, b3, b4⟩ := blankN_ok (n % 4)
      have hl : (blT (blankN (n % 4)) (treeOf s)).length ≤ 1000000 := by
        rw [ht, bl_doc]
        have h1 := bytesB_len (blankN (n % 4)) b4 (tokens s)
        rw [bytes_tokens] at h1
        have := tokensLen s
        omega
      obtain ⟨c1, c2⟩ := blanks_shape hv b1 b2 b3 hbd
      refine Goes.step (ifB_false _ _) (Goes.step (letV_eq _ _) (Goes.step (blank_idx n _ _) ?_))
      refine Goes.step (loadS_ip _ _ _ _ _) (Goes.step (bindO_ok _ _) (Goes.step (asS_str _ _) ?_))
      refine Goes.vload (List.mem_cons_self) w rfl ?_
      simp only [unA_agg, unc_cons, asI_int, asS_str, un0_nil, callT2 (u := .str (blankN (n % 4))) hN rfl rfl rfl (blanked_ok _ _ _ hN (by omega))]
      rw [ht] at hl ⊢
      generalize blT (blankN (n % 4)) (doc (tokens s)) = m at *
      refine Goes.parseV m w fun s3 k' tk' tx' y' hN' w => ?_
      refine Goes.bind (R := fun c => ∃ s', c = ([.bool true], s')) ?_ ?_
      · by_cases h40 : okS m = 40
        · rw [h40]
          exact Goes.step (eq_tf (c := true) rfl _ _) (Goes.step (ifB_true _ _) (Goes.some ⟨_, rfl⟩))
        · have hm : okS m = 0 := by
            unfold okS at h40 ⊢
            by_cases hlm : 65536 < m.length
            · rw [if_pos hlm] at h40; exact absurd rfl h40
            · rw [if_neg hlm, c1]; rfl
          rw [hm]
          refine Goes.step (eq_tf (c := false) rfl _ _) (Goes.step (ifB_false _ _) (Goes.step (eq_tf (c := true) rfl _ _) (Goes.step (ifB_true _ _) ?_)))
          refine Goes.vload (List.mem_cons_of_mem _ List.mem_cons_self) w rfl ?_
          have ht' : treeOf m = doc (tokens m) := by unfold treeOf; rw [if_pos hm]
          have e1 := fun {γ : Type} (st : St) (K : Kv γ) => callT hN rfl (tshape_ok _ _ hN (Nat.le_trans (shape_len h0) (by omega))) st K
          have e2 := fun {γ : Type} (st : St) (K : Kv γ) => callT hN' rfl (tshape_ok _ _ hN' (Nat.le_trans (shape_len hm) (by omega))) st K
          simp only [unA_agg, unc_cons, asI_int, asS_str, un0_nil, e1]
          refine Goes.vload (List.mem_cons_self) w rfl ?_
          simp only [unA_agg, unc_cons, asI_int, asS_str, un0_nil, e2]
          have he : (shapeT (treeOf s) == shapeT (treeOf m)) = true := by rw [ht, ht', c2, BEq.rfl]
          rw [he]
          exact Goes.step (chk_of rfl _) (Goes.some ⟨_, rfl⟩)
      · rintro c ⟨s', rfl⟩
        exact Goes.some rfl
end Go.Proofs.YtkodpnfdmgbfnaaGreatDoor.Vm
/- Trees: arguments. -/
set_option maxRecDepth 100000
namespace Go.Proofs.YtkodpnfdmgbfnaaGreatDoor.Vm
open Go Go.VM Go.Proofs Go.Parse

def lawS : List TypeId := [9, 5, 27, 24, 25]
theorem lawS_ok : ∀ t, inS lawS t = true → okTy Tryz.prog lawS t = true := by
  intro t ht
  have : t ∈ lawS := by
    obtain ⟨u, hu, e⟩ := List.any_eq_true.1 ht
    rw [← Nat.eq_of_beq_eq_true e]; exact hu
  exact List.all_eq_true.1 (show (lawS.all fun t => okTy Tryz.prog lawS t) = true by kernel_rfl) t this
theorem av_str {n t : Nat} {cs : List AV} (hu : Tryz.prog.underlying t = some .string) (h : AvOf Tryz.prog n t cs) : ∃ s, cs = [.str s] ∧ s.length ≤ maxLen := by
  cases n with
  | zero => cases h
  | succ n => simp only [AvOf, hu] at h; exact h
theorem av_u8 {n t : Nat} {cs : List AV} (hu : Tryz.prog.underlying t = some (.int .u8)) (h : AvOf Tryz.prog n t cs) : ∃ m : Nat, cs = [.int .u8 (m : Int)] := by
  cases n with
  | zero => cases h
  | succ n =>
    simp only [AvOf, hu] at h
    obtain ⟨m, rfl, h1, h2⟩ := h
    have h1 : (0 : Int) ≤ m := h1
    exact ⟨m.toNat, by rw [Int.toNat_of_nonneg h1]⟩
end Go.Proofs.YtkodpnfdmgbfnaaGreatDoor.Vm
