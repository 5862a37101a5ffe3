/-
  A part of the proof.
-/
import Derived.Test.YtkknkhniadiapaaDoorVmBB
import Derived.Below
import Derived.Lib.Repeat
import Derived.Lib.RuneCount
import Derived.Lib.ValidU
namespace Go.VM
open Go.RowKit
section
variable {P : Program} {T : TT} {G : Nat → Option (List AV)} {A : Nat → Prop} {g : Gh} {st : St} {w : World}
theorem Inv.below {w' : World} (h : Inv T A g st w) (hB : Below w.heap.size w w') : Inv T A g st w' := h.world hB.size fun b hb => hB.block b hb
theorem Kp.below {w' : World} (h : Inv T A g st w) (hB : Below w.heap.size w w') : Kp A g w g w' :=
  ⟨hB.size, fun b hb => hB.block b (Nat.lt_of_not_le fun k => hb (h.up b k)), fun _ _ _ => rfl, fun _ _ => rfl, Le.refl g, hB.os, hB.tape, hB.output⟩
theorem lib_prim {f : FuncId} {F : List AV → Res AV} (hcall : ∀ args w, (callFunc f args).run P w = .ok (.enter f args) w)
    (h : ∀ args v, F args = .ok v → ∀ A g st w xs, GR g G → RL g args xs → Inv T A g st w → Calls P f xs.toArray w fun e w' => (∃ x, e = .returned x ∧ R g v x) ∧ Below w.heap.size w w') : OnePrim P T G f (.lib F) := by
  intro C args p v fx st A g w xs hG hp hr hx hi
  unfold primP at hp
  split at hp
  all_goals first | (rename_i hq; cases hq; done) | skip
  all_goals simp only [Prim.lib.injEq, reduceCtorEq] at *
  all_goals first | contradiction | skip
  all_goals try subst_vars
  all_goals
    split at hp
    · rename_i u hu
      cases hp
      obtain ⟨rfl, rfl⟩ := run_val hr
      refine .inr ⟨hcall _ _, (h _ _ hu A g st w xs hG hx hi).mono ?_⟩
      rintro e w' ⟨⟨x, rfl, hR⟩, hB⟩
      exact ⟨x, rfl, g, hR, hi.below hB, Kp.below hi hB⟩
    · cases hp
def libValid : List AV → Res AV
  | [.str s] => match s.length.ble 9223372036854775807 with
    | true => .ok (.bool (Lib.validD s))
    | false => .error "valid: too long"
  | _ => .error "valid"
def libCount : List AV → Res AV
  | [.str s, .str [c]] => .ok (.int .i64 (Lib.countByte s c))
  | _ => .error "count"
theorem str_of {s : List UInt8} {x : Value} (h : R g (.str s) x) : x = .string ⟨s.toArray⟩ := by simpa only [R] using h
theorem int_of {k : IntKind} {n : Int} {x : Value} (h : R g (.int k n) x) : x = .int k n := by simpa only [R] using h
theorem R_int (k : IntKind) (n : Int) : R g (.int k n) (.int k n) := by simp only [R]
theorem R_bool (b : Bool) : R g (.bool b) (.bool b) := by simp only [R]
theorem countS_prim {f : FuncId} (hcall : ∀ args w, (callFunc f args).run P w = .ok (.enter f args) w)
    (h : ∀ (s : ByteArray) (c : UInt8) (w : World), Calls P f #[.string s, .string ⟨#[c]⟩] w fun e w' => e = .returned (.int .i64 (Lib.countByte s.data.toList c)) ∧ w' = w) : OnePrim P T G f (.lib libCount) := by
  refine lib_prim hcall fun args v hF A g st w xs _ hx _ => ?_
  unfold libCount at hF
  split at hF
  · rename_i s c
    cases hF
    obtain ⟨x, y, rfl, h1, h2⟩ := RL2 hx
    rw [str_of h1, str_of h2]
    refine (h ⟨s.toArray⟩ c w).mono ?_
    rintro e w' ⟨rfl, rfl⟩
    exact ⟨⟨_, rfl, R_int _ _⟩, Below.refl _ _⟩
  · cases hF
end
def copyR (t e : TypeId) (z : Nat) : List AV → St → Res (AV × St)
  | [.mp sp 0], st => do
    match ← st.get sp with
    | .cells _ [.nils] => pure (.mp (st.h + 1) 0, ((st.new (.row 0 e z [])).2.new (.cells t [.gs st.h z 0])).2)
    | .cells _ [.gs k z' n] => match ← st.get k with
      | .row m e' z2 cs => match (n.beq m && (Nat.beq e' e && (z2.beq z && z'.beq z))) && n.ble 1000000 with
        | true => pure (.mp (st.h + 1) 0, ((st.new (.row n e z cs)).2.new (.cells t [.gs st.h z n])).2)
        | false => .error "copy: what?"
      | _ => .error "copy: of what?"
    | _ => .error "copy: of no slice"
  | _, _ => .error "copy"
def nmsC : List AV → Option (List (List UInt8))
  | [] => some []
  | .str s :: _ :: l => match nmsC l with
    | some r => some (s :: r)
    | none => none
  | _ => none
def findO (nm : List UInt8) : List (List UInt8) → Nat → Option Nat
  | [], _ => none
  | a :: l, i => if a = nm then some i else findO nm l (i + 1)
def closeR (e : TypeId) : List AV → St → Res (AV × St)
  | [.mp xp 0, .str nm], st => do
    match ← st.get xp with
    | .cells _ [.nils] => pure (.int .i64 5, st)
    | .cells t [.gs k z n] => match ← st.get k with
      | .row m e' z2 cs => match (n.beq m && (Nat.beq e' e && (z2.beq 2 && z.beq 2))) && (n.ble 1000000 && st.ro.ble xp) with
        | true => match nmsC cs with
          | none => .error "close: of no texts"
          | some L => match findO nm L 0 with
            | none => pure (.int .i64 5, st)
            | some i => pure (.int .i64 0, (st.new (.row (n - 1) e 2 (cs.take (i * 2) ++ cs.drop ((i + 1) * 2)))).2.put xp (.cells t [.gs st.h 2 (n - 1)]))
        | false => .error "close: what?"
      | _ => .error "close: of what?"
    | _ => .error "close: of no slice"
  | _, _ => .error "close"
theorem findO_lt {nm : List UInt8} : ∀ {l : List (List UInt8)} {i k : Nat}, findO nm l i = some k → i ≤ k ∧ k < i + l.length
  | [], _, _, h => by cases h
  | a :: l, i, k, h => by
    unfold findO at h
    split at h
    · cases h; simp
    · obtain ⟨h1, h2⟩ := findO_lt h
      simp only [List.length_cons]; omega
theorem nmsC_at {g : Gh} : ∀ {cs : List AV} {L : List (List UInt8)} {vals : List Value}, nmsC cs = some L → RL g cs vals → vals.length = L.length * 2 ∧ ∀ i a, L[i]? = some a → vals[i * 2]? = some (.string ⟨a.toArray⟩)
  | [], L, vals, h, hr => by
    cases h
    simp only [RL] at hr
    subst hr
    exact ⟨rfl, fun i a h => by simp at h⟩
  | .str s :: c :: l, L, vals, h, hr => by
    unfold nmsC at h
    split at h
    · rename_i r hl
      cases h
      simp only [RL, R] at hr
      obtain ⟨x, xs, rfl, rfl, y, ys, rfl, _, hr⟩ := hr
      obtain ⟨h1, h2⟩ := nmsC_at hl hr
      refine ⟨by simp only [List.length_cons]; omega, fun i a hi => ?_⟩
      cases i with
      | zero => simp at hi; subst hi; rfl
      | succ i =>
        rw [show (i + 1) * 2 = i * 2 + 1 + 1 by omega, List.getElem?_cons_succ, List.getElem?_cons_succ]
        exact h2 i a (by simpa using hi)
    · cases h
section
variable {P : Program} {T : TT}
theorem Inv.freshRow {A : Nat → Prop} {g : Gh} {st : St} {w w' : World} {e : TypeId} {ti : TI} {n b cap : Nat} {cs : List AV} {pre rest : Array Value} (hv : Inv T A g st w) (hi : T.get e = some ti) (h1z : 1 ≤ ti.size)
    (hB : Below w.heap.size w w') (hb : w.heap.size ≤ b) (hr : RL g cs pre.toList) (ho : ∀ v ∈ pre.toList, v.oneCell' = true) (hcl : cs.length = n * ti.size) (hn : n ≤ cap) (hh : w'.heap[b]? = some (.cells (pre ++ rest) e (0, 0))) (hsz : (pre ++ rest).size = cap * ti.size) :
    Inv T A (g.setE st.h (.tok fun u => if u = n then some (b, cap) else none)) (st.new (.row n e ti.size cs)).2 w' ∧ Kp A g w (g.setE st.h (.tok fun u => if u = n then some (b, cap) else none)) w' := by
  have hE0 : g.E st.h = none := hv.E _ (Nat.le_refl _)
  refine ⟨(hv.below hB).name (hU := fun _ vs ty fz h => by rw [hh] at h; cases h; rfl) (.row n e ti.size cs) _ b (fun id o' hid ha => hv.not_new hb id o' hid ha) (hv.up _ hb) ?_ ?_, (Kp.below hv hB).trans (Kp.setE hE0)⟩
  · exact fun b' hb' => At_row (Gh.setE_same _ _ _) (by simp; rfl) hb'
  · exact ⟨_, b, cap, ti, pre, rest, Gh.setE_same _ _ _, by simp, fun m hm => by rw [if_neg (by omega)], hi, h1z, hn, hh, hsz, fun o => hv.F_new hb o, rfl, RL_mono (Le.setE hE0) _ _ hr, ho, hcl⟩
theorem copyR_ok {t e : TypeId} {z : Nat} {ti : TI} (hi : T.get e = some ti) (hz : ti.size = z) (h1z : 1 ≤ z) {f : FuncId} (enter : ∀ args w, (callFunc f args).run P w = .ok (.enter f args) w)
    (hC : ∀ (b0 : Nat) (A : Option Addr) (n cap : Nat) (vals : List Value) (w : World), w.cell? ⟨b0, 0, none⟩ = some (.slice A n cap) → vals.length = n * z → n ≤ 1000000 → (A = none → n = 0 ∧ cap = 0) → (∀ a, A = some a → ∀ j v, vals[j]? = some v → w.cell? (a.add j) = some v) → (∀ v ∈ vals, v.oneCell' = true) →
      Calls P f #[.pointer (some ⟨b0, 0, none⟩)] w fun x w' => ∃ W, Below w.heap.size w W ∧ W.heap.size = w.heap.size + 1 ∧ W.heap[w.heap.size]? = some (.cells vals.toArray e (0, 0)) ∧ x = .returned (.pointer (some ⟨w.heap.size + 1, 0, none⟩)) ∧ w' = W.alloc (.cells #[.slice (some ⟨w.heap.size, 0, none⟩) n n] t))
    {args : List AV} {st : St} {v : AV} {s : St} (h : copyR t e z args st = .ok (v, s)) : s.ro = st.ro ∧ ∀ A g w xs, RL g args xs → Inv T A g st w →
      (callFunc f xs.toArray).run P w = .ok (.enter f xs.toArray) w ∧ Calls P f xs.toArray w fun e w' => ∃ x, e = .returned x ∧ Post T A g s w v x w' := by
  subst hz
  have fin : ∀ {A : Nat → Prop} {g : Gh} {w : World} {n b0 cap : Nat} {B : Option Addr} {cs : List AV} {vals : List Value}, Inv T A g st w → RL g cs vals → (∀ v ∈ vals, v.oneCell' = true) → cs.length = n * ti.size → n ≤ 1000000 →
      w.cell? ⟨b0, 0, none⟩ = some (.slice B n cap) → (B = none → n = 0 ∧ cap = 0) → (∀ a, B = some a → ∀ j v, vals[j]? = some v → w.cell? (a.add j) = some v) →
      Calls P f #[.pointer (some ⟨b0, 0, none⟩)] w fun x w' => ∃ y, x = .returned y ∧ Post T A g ((st.new (.row n e ti.size cs)).2.new (.cells t [.gs st.h ti.size n])).2 w (.mp (st.h + 1) 0) y w' := by
    intro A g w n b0 cap B cs vals hv hr ho hcl hn hc hB0 hB1
    have hl : vals.length = n * ti.size := by rw [RL_len hr, hcl]
    refine (hC b0 B n cap vals w hc hl hn hB0 hB1 ho).mono ?_
    rintro x w' ⟨W, hB, hsz, h1, rfl, rfl⟩
    obtain ⟨i2, k2⟩ := hv.freshRow (b := w.heap.size) (cap := n) (n := n) (cs := cs) (pre := vals.toArray) (rest := #[]) hi h1z hB (Nat.le_refl _) (by rw [List.toList_toArray]; exact hr) (by rw [List.toList_toArray]; exact ho) hcl (Nat.le_refl _) (by rw [h1]; simp) (by rw [Array.append_empty, List.size_toArray, hl])
    obtain ⟨i3, k3, r3⟩ := i2.newCells (cs := [.gs st.h ti.size n]) (xs := [.slice (some ⟨w.heap.size, 0, none⟩) n n]) t (by
      simp only [RL, R]
      exact ⟨_, _, rfl, ⟨_, w.heap.size, n, Gh.setE_same _ _ _, by simp, rfl, Nat.le_refl _, h1z⟩, rfl⟩) (by
      intro x hx
      rw [List.mem_singleton.1 hx]
      rfl)
    refine ⟨_, rfl, _, ?_, i3, k2.trans k3⟩
    rw [← hsz]
    exact r3
  unfold copyR at h
  split at h
  · rename_i sp
    simp only [bind_ok] at h
    obtain ⟨o, ho, h⟩ := h
    split at h
    · rename_i t0
      simp only [pure_ok, Prod.mk.injEq] at h
      obtain ⟨rfl, rfl⟩ := h
      refine ⟨rfl, fun A g w xs hr hv => ?_⟩
      simp only [RL, R] at hr
      obtain ⟨x1, l1, rfl, ⟨b, hE, rfl⟩, rfl⟩ := hr
      obtain ⟨b', vs, rest, ty', q1, q2, q3, q4, q5, q6⟩ := hv.cells ho
      have hbb : b' = b := by have := q1.symm.trans hE; simpa using this
      subst hbb
      simp only [RL, R] at q3
      obtain ⟨x, l, q3, rfl, rfl⟩ := q3
      have hc : w.cell? ⟨b', 0, none⟩ = some (.slice none 0 0) := cell_pre q2 (by rw [← Array.getElem?_toList, q3]; rfl)
      exact ⟨enter _ _, fin (cs := []) (vals := []) hv (by simp [RL]) (fun _ hx => by cases hx) (by simp) (Nat.zero_le _) hc (fun _ => ⟨rfl, rfl⟩) (fun _ hx => by cases hx)⟩
    · rename_i t0 k z' n
      simp only [bind_ok] at h
      obtain ⟨o2, ho2, h⟩ := h
      split at h
      · rename_i m e' z2 cs
        split at h
        · rename_i hcnd
          simp only [pure_ok, Prod.mk.injEq] at h
          obtain ⟨rfl, rfl⟩ := h
          simp only [Bool.and_eq_true] at hcnd
          obtain ⟨⟨c1, c2, c3, c4⟩, c5⟩ := hcnd
          have c1 := Nat.eq_of_beq_eq_true c1
          have c2 : e' = e := Nat.eq_of_beq_eq_true c2
          have c3 := Nat.eq_of_beq_eq_true c3
          have c4 := Nat.eq_of_beq_eq_true c4
          have c5 := Nat.le_of_ble_eq_true c5
          subst c1; subst c2; subst c3; subst c4
          refine ⟨rfl, fun A g w xs hr hv => ?_⟩
          simp only [RL, R] at hr
          obtain ⟨x1, l1, rfl, ⟨b, hE, rfl⟩, rfl⟩ := hr
          obtain ⟨b', vs, rest, ty', q1, q2, q3, q4, q5, q6⟩ := hv.cells ho
          have hbb : b' = b := by have := q1.symm.trans hE; simpa using this
          subst hbb
          simp only [RL, R] at q3
          obtain ⟨x, l, q3, ⟨loc, b2, cap, hE2, hl2, rfl, hcap, _⟩, rfl⟩ := q3
          obtain ⟨loc2, b3, cap3, i2, pre, rest3, p1, p2, p3, p4, p5, p6, p7, p8, p9, p10, p11, p12, p13⟩ := hv.H k _ ho2
          have e1 := p1.symm.trans hE2
          simp only [Option.some.injEq, Ent.tok.injEq] at e1
          subst e1
          have e2 := p2.symm.trans hl2
          simp only [Option.some.injEq, Prod.mk.injEq] at e2
          obtain ⟨rfl, rfl⟩ := e2
          have hc : w.cell? ⟨b', 0, none⟩ = some (.slice (some ⟨b3, 0, none⟩) n cap3) := cell_pre q2 (by rw [← Array.getElem?_toList, q3]; rfl)
          refine ⟨enter _ _, fin hv p11 p12 (by rw [p13, p10]) c5 hc (fun hx => by cases hx) ?_⟩
          intro a ha j v hj
          cases ha
          rw [Addr.add_at, Nat.zero_add]
          exact cell_pre p7 (by simpa using hj)
        · cases h
      · cases h
    · cases h
  · cases h
theorem closeR_ok {e : TypeId} {ti : TI} (hi : T.get e = some ti) (hz : ti.size = 2) {f : FuncId} (enter : ∀ args w, (callFunc f args).run P w = .ok (.enter f args) w)
    (hN : ∀ (b0 : Nat) (nm : List UInt8) (w : World), w.cell? ⟨b0, 0, none⟩ = some (.slice none 0 0) → Calls P f #[.pointer (some ⟨b0, 0, none⟩), .string ⟨nm.toArray⟩] w fun x w' => x = .returned (.int .i64 5) ∧ Below w.heap.size w w')
    (hC : ∀ (b0 b n cap : Nat) (nm : List UInt8) (nms : List (List UInt8)) (vals : List Value) (w : World), w.cell? ⟨b0, 0, none⟩ = some (.slice (some ⟨b, 0, none⟩) n cap) → w.frozen? ⟨b0, 0, none⟩ = false → nms.length = n → n ≤ 1000000 → n ≤ cap → vals.length = n * 2 →
      (∀ j v, vals[j]? = some v → w.cell? ⟨b, j, none⟩ = some v) → (∀ v ∈ vals, v.oneCell' = true) → (∀ i a, nms[i]? = some a → vals[i * 2]? = some (.string ⟨a.toArray⟩)) →
      Calls P f #[.pointer (some ⟨b0, 0, none⟩), .string ⟨nm.toArray⟩] w fun x w' => match findO nm nms 0 with
        | none => x = .returned (.int .i64 5) ∧ Below w.heap.size w w'
        | some i => x = .returned (.int .i64 0) ∧ ∃ (W : World) (b2 c2 : Nat) (rest : List Value), Below w.heap.size w W ∧ w.heap.size ≤ b2 ∧ n - 1 ≤ c2 ∧ W.heap[b2]? = some (.cells ((vals.take (i * 2) ++ vals.drop ((i + 1) * 2)).toArray ++ rest.toArray) e (0, 0)) ∧
            (n - 1) * 2 + rest.length = c2 * 2 ∧ w' = W.setCell ⟨b0, 0, none⟩ (.slice (some ⟨b2, 0, none⟩) (n - 1) c2))
    {args : List AV} {st : St} {v : AV} {s : St} (h : closeR e args st = .ok (v, s)) : s.ro = st.ro ∧ ∀ A g w xs, RL g args xs → Inv T A g st w →
      (callFunc f xs.toArray).run P w = .ok (.enter f xs.toArray) w ∧ Calls P f xs.toArray w fun e w' => ∃ x, e = .returned x ∧ Post T A g s w v x w' := by
  unfold closeR at h
  split at h
  · rename_i xp nm
    simp only [bind_ok] at h
    obtain ⟨o, ho, h⟩ := h
    split at h
    · rename_i t0
      simp only [pure_ok, Prod.mk.injEq] at h
      obtain ⟨rfl, rfl⟩ := h
      refine ⟨rfl, fun A g w xs hr hv => ?_⟩
      simp only [RL, R] at hr
      obtain ⟨x1, l1, rfl, ⟨b, hE, rfl⟩, x2, l2, rfl, rfl, rfl⟩ := hr
      obtain ⟨b', vs, rest, ty', q1, q2, q3, q4, q5, q6⟩ := hv.cells ho
      have hbb : b' = b := by have := q1.symm.trans hE; simpa using this
      subst hbb
      simp only [RL, R] at q3
      obtain ⟨x, l, q3, rfl, rfl⟩ := q3
      have hc : w.cell? ⟨b', 0, none⟩ = some (.slice none 0 0) := cell_pre q2 (by rw [← Array.getElem?_toList, q3]; rfl)
      refine ⟨enter _ _, (hN b' nm w hc).mono ?_⟩
      rintro x w' ⟨rfl, hB⟩
      exact ⟨_, rfl, g, by simp only [R], hv.below hB, Kp.below hv hB⟩
    · rename_i t k z' n
      simp only [bind_ok] at h
      obtain ⟨o2, ho2, h⟩ := h
      split at h
      · rename_i m e' z2 cs
        split at h
        · rename_i hcnd
          simp only [Bool.and_eq_true] at hcnd
          obtain ⟨⟨c1, c2, c3, c4⟩, c5, c6⟩ := hcnd
          have c1 := Nat.eq_of_beq_eq_true c1
          have c2 : e' = e := Nat.eq_of_beq_eq_true c2
          have c3 := Nat.eq_of_beq_eq_true c3
          have c4 := Nat.eq_of_beq_eq_true c4
          have c5 := Nat.le_of_ble_eq_true c5
          have c6 := Nat.le_of_ble_eq_true c6
          subst c1; subst c2; subst c3; subst c4
          split at h
          · cases h
          rename_i L hL
          have pre0 : ∀ {A : Nat → Prop} {g : Gh} {w : World} {xs : List Value}, RL g [.mp xp 0, .str nm] xs → Inv T A g st w → ∃ b0 b cap ty2 vs rest pre rest3, xs = [.pointer (some ⟨b0, 0, none⟩), .string ⟨nm.toArray⟩] ∧ g.E xp = some (.blk b0) ∧
              w.heap[b0]? = some (.cells (vs ++ rest) ty2 (0, 0)) ∧ vs.toList = [.slice (some ⟨b, 0, none⟩) n cap] ∧ (∀ o, g.F b0 o = none) ∧ (t < 1000000 → rest = #[] ∧ ty2 = t) ∧ n ≤ cap ∧ w.heap[b]? = some (.cells (pre ++ rest3) e' (0, 0)) ∧ RL g cs pre.toList ∧ (∀ v ∈ pre.toList, v.oneCell' = true) ∧ cs.length = n * 2 := by
            intro A g w xs hr hv
            simp only [RL, R] at hr
            obtain ⟨x1, l1, rfl, ⟨b, hE, rfl⟩, x2, l2, rfl, rfl, rfl⟩ := hr
            obtain ⟨b', vs, rest, ty', q1, q2, q3, q4, q5, q6⟩ := hv.cells ho
            have hbb : b' = b := by have := q1.symm.trans hE; simpa using this
            subst hbb
            simp only [RL, R] at q3
            obtain ⟨x, l, q3, ⟨loc, b2, cap, hE2, hl2, rfl, hcap, _⟩, rfl⟩ := q3
            obtain ⟨loc2, b3, cap3, i2, pre, rest3, p1, p2, p3, p4, p5, p6, p7, p8, p9, p10, p11, p12, p13⟩ := hv.H k _ ho2
            have e1 := p1.symm.trans hE2
            simp only [Option.some.injEq, Ent.tok.injEq] at e1
            subst e1
            have e2 := p2.symm.trans hl2
            simp only [Option.some.injEq, Prod.mk.injEq] at e2
            obtain ⟨rfl, rfl⟩ := e2
            exact ⟨b', b3, cap3, ty', vs, rest, pre, rest3, rfl, q1, q2, q3, q5, q6, hcap, p7, p11, p12, by rw [p13, ← p10]⟩
          cases hf : findO nm L 0 with
          | none =>
            rw [hf] at h
            simp only [pure_ok, Prod.mk.injEq] at h
            obtain ⟨rfl, rfl⟩ := h
            refine ⟨rfl, fun A g w xs hr hv => ?_⟩
            obtain ⟨b0, b, cap, ty2, vs, rest, pre, rest3, rfl, q1, q2, q3, q5, q6, hcap, p7, p11, p12, p13⟩ := pre0 hr hv
            have hc : w.cell? ⟨b0, 0, none⟩ = some (.slice (some ⟨b, 0, none⟩) n cap) := cell_pre q2 (by rw [← Array.getElem?_toList, q3]; rfl)
            obtain ⟨l1, l2⟩ := nmsC_at hL p11
            have hl := RL_len p11
            refine ⟨enter _ _, (hC b0 b n cap nm L pre.toList w hc (by simp [World.frozen?, q2]) (by omega) c5 hcap (by omega) (fun j v hj => cell_pre p7 (by simpa using hj)) p12 l2).mono ?_⟩
            intro x w' hq
            rw [hf] at hq
            obtain ⟨rfl, hB⟩ := hq
            exact ⟨_, rfl, g, by simp only [R], hv.below hB, Kp.below hv hB⟩
          | some i =>
            rw [hf] at h
            simp only [pure_ok, Prod.mk.injEq] at h
            obtain ⟨rfl, rfl⟩ := h
            refine ⟨rfl, fun A g w xs hr hv => ?_⟩
            obtain ⟨b0, b, cap, ty2, vs, rest, pre, rest3, rfl, q1, q2, q3, q5, q6, hcap, p7, p11, p12, p13⟩ := pre0 hr hv
            have hc : w.cell? ⟨b0, 0, none⟩ = some (.slice (some ⟨b, 0, none⟩) n cap) := cell_pre q2 (by rw [← Array.getElem?_toList, q3]; rfl)
            obtain ⟨l1, l2⟩ := nmsC_at hL p11
            have hl := RL_len p11
            have hin := (findO_lt hf).2
            have hb0 := lt_of_heap q2
            refine ⟨enter _ _, (hC b0 b n cap nm L pre.toList w hc (by simp [World.frozen?, q2]) (by omega) c5 hcap (by omega) (fun j v hj => cell_pre p7 (by simpa using hj)) p12 l2).mono ?_⟩
            intro x w' hq
            rw [hf] at hq
            obtain ⟨rfl, W, b2, c2, rest5, hB, hb2, hn1, hh, hsz, rfl⟩ := hq
            have hcl : (cs.take (i * 2) ++ cs.drop ((i + 1) * 2)).length = (n - 1) * 2 := by
              rw [List.length_append, List.length_take, List.length_drop]; omega
            obtain ⟨i2, k2⟩ := hv.freshRow (n := n - 1) (cs := cs.take (i * 2) ++ cs.drop ((i + 1) * 2)) (cap := c2) hi (by omega) hB hb2 (by
                rw [List.toList_toArray]; exact RL_append (RL_take _ p11) (RL_drop _ p11)) (by
                rw [List.toList_toArray]
                intro u hu
                rcases List.mem_append.1 hu with hu | hu
                · exact p12 u (List.mem_of_mem_take hu)
                · exact p12 u (List.mem_of_mem_drop hu)) (by rw [hz]; exact hcl) hn1 hh (by
                have : (pre.toList.take (i * 2) ++ pre.toList.drop ((i + 1) * 2)).length = (n - 1) * 2 := by
                  rw [List.length_append, List.length_take, List.length_drop]; omega
                rw [Array.size_append, List.size_toArray, List.size_toArray, this, hz]; omega)
            rw [hz] at i2
            have hne : xp ≠ st.h := by have := (St.get_ok.1 ho).1; omega
            have ho' : (st.new (.row (n - 1) e' 2 (cs.take (i * 2) ++ cs.drop ((i + 1) * 2)))).2.get xp = .ok (.cells t [.gs k 2 n]) := St.get_new_ok.2 (.inr ⟨(St.get_ok.1 ho).1, ho⟩)
            have q2' : W.heap[b0]? = some (.cells (vs ++ rest) ty2 (0, 0)) := by rw [hB.block b0 hb0]; exact q2
            obtain ⟨i3, k3⟩ := i2.rewrite (cs' := [.gs st.h 2 (n - 1)]) (vs' := [.slice (some ⟨b2, 0, none⟩) (n - 1) c2]) ho' (by rw [Gh.setE_ne _ _ hne]; exact q1) q2' q5 q6 c6 (by
              simp only [RL, R]
              exact ⟨_, _, rfl, ⟨_, b2, c2, Gh.setE_same _ _ _, by simp, rfl, hn1, by omega⟩, rfl⟩) (by
              intro u hu
              rw [List.mem_singleton.1 hu]; rfl)
            have hset : W.setCell ⟨b0, 0, none⟩ (.slice (some ⟨b2, 0, none⟩) (n - 1) c2) = W.setRow b0 ([Value.slice (some ⟨b2, 0, none⟩) (n - 1) c2].toArray ++ rest) := by
              rw [setCell_eq_setRow W b0 0 _ _ _ _ q2']
              congr 1
              have hvs : vs = #[.slice (some ⟨b, 0, none⟩) n cap] := by
                apply Array.ext'; exact q3
              rw [hvs]
              apply Array.ext'
              simp
            rw [hset]
            exact ⟨_, rfl, _, by simp only [R], i3, k2.trans k3⟩
        · cases h
      · cases h
    · cases h
  · cases h
end
end Go.VM
