/-
  A part of the proof.
-/
/- What names mean, ls plain functions. -/
namespace Go.Scope
abbrev Tx := List UInt8
abbrev Sp := Int × Int
inductive Pat where
  | mk (k lit : Nat) (sp : Sp) (nm : Tx) (ps : List Pat)
  deriving Inhabited
inductive Exr where
  | mk (k : Nat) (sp : Sp) (rc : Bool) (nm : Tx) (ps : List Pat) (ls : List Exr)
  deriving Inhabited
structure Bd where
  sp : Sp
  rc : Bool
  ps : List Pat
  body : Exr
structure Tb where
  bs : List (Tx × Sp)
  us : List (Tx × Sp × Int)
  tw : List Nat
def Tb.none : Tb := ⟨[], [], []⟩
/-- A binder more, of a group that began there. -/
def bindT (fr : Nat) (nm : Tx) (sp : Sp) (t : Tb) : Tb := ⟨t.bs ++ [(nm, sp)], t.us, if (t.bs.drop fr).any (fun b => b.1 == nm) = true then t.tw ++ [t.bs.length] else t.tw⟩
mutual
def grp (fr : Nat) : Pat → Tb → List Nat → Tb × List Nat
  | .mk k _ sp nm ps, t, bd => if k = 15 then grps fr ps (bindT fr nm sp t) (bd ++ [t.bs.length]) else grps fr ps t bd
def grps (fr : Nat) : List Pat → Tb → List Nat → Tb × List Nat
  | [], t, bd => (t, bd)
  | p :: ps, t, bd => grps fr ps (grp fr p t bd).1 (grp fr p t bd).2
end
def binders (ps : List Pat) (t : Tb) (bd : List Nat) : Tb × List Nat := grps t.bs.length ps t bd
def sNot : Tx := [110, 111, 116]
def sFst : Tx := [102, 115, 116]
def sSnd : Tx := [115, 110, 100]
def sFloat : Tx := [102, 108, 111, 97, 116]
def given (nm : Tx) : Bool := [sNot, sFst, sSnd, sFloat].any fun s => s == nm
/-- Has that binder that name? -/
def hasNm (bs : List (Tx × Sp)) (nm : Tx) (i : Nat) : Bool := (bs[i]?.map (·.1)) == some nm
/-- The last one of some binders that has a name. -/
def seek (bs : List (Tx × Sp)) (nm : Tx) (bd : List Nat) : Option Nat := bd.reverse.find? (hasNm bs nm)
def means (bs : List (Tx × Sp)) (nm : Tx) (bd : List Nat) : Int :=
  match seek bs nm bd with
  | some i => (i : Int)
  | none => if given nm = true then -2 else -1
def useT (nm : Tx) (sp : Sp) (t : Tb) (bd : List Nat) : Tb := ⟨t.bs, t.us ++ [(nm, sp, means t.bs nm bd)], t.tw⟩
/-- A let's patterns: the table, what is bound behind it, what is bound in what it is. -/
def two (rc : Bool) (ps : List Pat) (t : Tb) (bd : List Nat) : Tb × List Nat × List Nat :=
  let r := binders (ps.take 1) t bd
  let q := binders (ps.drop 1) r.1 (if rc = true then r.2 else bd)
  (q.1, r.2, q.2)
/-- Patterns, each a group of its own. -/
def alls : List Pat → Tb → List Nat → Tb
  | [], t, _ => t
  | p :: ps, t, bd => alls ps (binders [p] t bd).1 bd
mutual
def expr : Exr → Tb → List Nat → Tb
  | .mk k sp rc nm ps ls, t, bd =>
    if k = 11 then exprs ls (binders ps t bd).1 (binders ps t bd).2
    else if k = 14 then letA ls (two rc ps t bd).1 (two rc ps t bd).2.1 (two rc ps t bd).2.2
    else if k = 13 then matchA ls ps t bd
    else exprs ls (if k = 1 then useT nm sp t bd else t) bd
def exprs : List Exr → Tb → List Nat → Tb
  | [], t, _ => t
  | e :: l, t, bd => exprs l (expr e t bd) bd
def letA : List Exr → Tb → List Nat → List Nat → Tb
  | [], t, _, _ => t
  | a :: r, t, first, inner => exprs r (expr a t inner) first
def matchA : List Exr → List Pat → Tb → List Nat → Tb
  | [], ps, t, bd => alls ps t bd
  | a :: r, ps, t, bd => armsA r ps (expr a t bd) bd
def armsA : List Exr → List Pat → Tb → List Nat → Tb
  | [], ps, t, bd => alls ps t bd
  | e :: r, [], t, bd => armsA r [] (expr e t bd) bd
  | e :: r, p :: ps, t, bd => armsA r ps (expr e (binders [p] t bd).1 (binders [p] t bd).2) bd
end
/-! What grows. -/
structure Ext (t t' : Tb) : Prop where
  bs : ∃ x, t'.bs = t.bs ++ x
  us : ∃ x, t'.us = t.us ++ x
  tw : ∃ x, t'.tw = t.tw ++ x
theorem Ext.refl (t : Tb) : Ext t t := ⟨⟨[], by simp⟩, ⟨[], by simp⟩, ⟨[], by simp⟩⟩
theorem Ext.trans {a b c : Tb} (h : Ext a b) (k : Ext b c) : Ext a c := by
  obtain ⟨⟨x1, h1⟩, ⟨x2, h2⟩, ⟨x3, h3⟩⟩ := h
  obtain ⟨⟨y1, k1⟩, ⟨y2, k2⟩, ⟨y3, k3⟩⟩ := k
  exact ⟨⟨x1 ++ y1, by rw [k1, h1, List.append_assoc]⟩, ⟨x2 ++ y2, by rw [k2, h2, List.append_assoc]⟩, ⟨x3 ++ y3, by rw [k3, h3, List.append_assoc]⟩⟩
/-! What a table is like. -/
def useOk (bs : List (Tx × Sp)) (u : Tx × Sp × Int) : Prop := (∃ k : Nat, u.2.2 = (k : Int) ∧ ∃ s, bs[k]? = some (u.1, s)) ∨ (u.2.2 = -2 ∧ given u.1 = true) ∨ (u.2.2 = -1 ∧ given u.1 = false)
structure Good (t : Tb) (bd : List Nat) : Prop where
  us : ∀ u ∈ t.us, useOk t.bs u
  bd : ∀ i ∈ bd, i < t.bs.length
  tw : ∀ i ∈ t.tw, 1 ≤ i ∧ i < t.bs.length
  up : t.tw.Pairwise (· < ·)
theorem useOk.ext {bs x : List (Tx × Sp)} {u : Tx × Sp × Int} (h : useOk bs u) : useOk (bs ++ x) u := by
  rcases h with ⟨k, h1, s, h2⟩ | h | h
  · refine .inl ⟨k, h1, s, ?_⟩
    rw [List.getElem?_append_left (List.getElem?_eq_some_iff.1 h2).1]
    exact h2
  · exact .inr (.inl h)
  · exact .inr (.inr h)
theorem seek_some {bs : List (Tx × Sp)} {nm : Tx} {bd : List Nat} {i : Nat} (h : seek bs nm bd = some i) : i ∈ bd ∧ ∃ s, bs[i]? = some (nm, s) := by
  unfold seek at h
  have h1 := List.find?_some h
  have h2 := List.mem_of_find?_eq_some h
  refine ⟨by simpa using h2, ?_⟩
  unfold hasNm at h1
  cases hb : bs[i]? with
  | none => rw [hb] at h1; simp at h1
  | some b =>
    rw [hb] at h1
    simp only [Option.map_some, beq_iff_eq, Option.some.injEq] at h1
    exact ⟨b.2, by rw [← h1]⟩
end Go.Scope
/- Other names for binders, and their uses with them. -/
namespace Go.Scope
section
variable (T : Tb) (nms : List Tx)
/-- Names that may be put. -/
structure Fit (D : Prop) : Prop where
  len : nms.length = T.bs.length
  use : ∀ (bd : List Nat) (nm : Tx) (sp : Sp) (k : Int) (bs : List (Tx × Sp)), (∀ i ∈ bd, i < T.bs.length) → (nm, sp, k) ∈ T.us → means T.bs nm bd = k → (∀ i, i < T.bs.length → ∃ s, bs[i]? = some (nms.getD i [], s)) →
    means bs (if 0 ≤ k ∧ k < (nms.length : Int) then nms.getD k.toNat [] else nm) bd = k
  dis : D → ∀ i j, i < j → j < T.bs.length → nms.getD i [] ≠ nms.getD j []
/-- The same but for names. -/
structure Rl (D : Prop) (t t' : Tb) : Prop where
  len : t'.bs.length = t.bs.length
  bs : ∀ (i : Nat) (b : Tx × Sp), t.bs[i]? = some b → t'.bs[i]? = some (nms.getD i [], b.2)
  us : t'.us.map (·.2) = t.us.map (·.2)
  tw : D → t'.tw = []
variable {T nms} {D : Prop}
/-- What is bound lies in the table. -/
def In (t : Tb) (bd : List Nat) : Prop := ∀ i ∈ bd, i < t.bs.length
theorem In.ext {t u : Tb} {bd : List Nat} (h : In t bd) (e : Ext t u) : In u bd := fun i hi => by
  obtain ⟨x, hx⟩ := e.bs
  have := h i hi
  rw [hx, List.length_append]; omega
end
end Go.Scope
/- Other names: no meaning changes. -/
namespace Go.Scope
/-! Names that stand nowhere. -/
def digs (n : Nat) : Tx := if h : n < 10 then [48 + UInt8.ofNat n] else digs (n / 10) ++ [48 + UInt8.ofNat (n % 10)]
termination_by n
decreasing_by omega
def fresh (long n : Nat) : Tx := List.replicate (long + 1) 122 ++ digs n
theorem fresh_len (long i : Nat) : long < (fresh long i).length := by
  unfold fresh
  rw [List.length_append, List.length_replicate]
  omega
theorem hasNm_of {bs : List (Tx × Sp)} {nm n : Tx} {i : Nat} {s : Sp} (h : bs[i]? = some (n, s)) : hasNm bs nm i = (n == nm) := by
  unfold hasNm
  rw [h]
  show (some n == some nm) = _
  rw [Option.some_beq_some]
theorem find_less {α : Type} {p q : α → Bool} {k : α} : ∀ {l : List α}, (∀ i ∈ l, q i = true → p i = true) → q k = true → l.find? p = some k → l.find? q = some k
  | [], _, _, h => by simp at h
  | a :: l, hl, hk, h => by
    rw [List.find?_cons] at h ⊢
    cases hp : p a with
    | true =>
      rw [hp] at h
      simp only [Option.some.injEq] at h
      rw [h, hk]
    | false =>
      rw [hp] at h
      have : q a = false := by
        cases hq : q a with
        | false => rfl
        | true => rw [hl a List.mem_cons_self hq] at hp; cases hp
      rw [this]
      exact find_less (fun i hi => hl i (List.mem_cons_of_mem _ hi)) hk h
/-- Is a name no longer than that? -/
structure Long (T : Tb) (long : Nat) : Prop where
  bs : ∀ b ∈ T.bs, b.1.length ≤ long
  us : ∀ u ∈ T.us, u.1.length ≤ long
theorem means_some {bs : List (Tx × Sp)} {nm : Tx} {bd : List Nat} {k : Int} (h : means bs nm bd = k) (h0 : 0 ≤ k) : seek bs nm bd = some k.toNat := by
  unfold means at h
  cases hs : seek bs nm bd with
  | some i => rw [hs] at h; rw [← h]; rfl
  | none => rw [hs] at h; dsimp only at h; split at h <;> omega
theorem means_none {bs : List (Tx × Sp)} {nm : Tx} {bd : List Nat} (h : seek bs nm bd = none) : means bs nm bd = if given nm = true then -2 else -1 := by unfold means; rw [h]
theorem means_neg {bs : List (Tx × Sp)} {nm : Tx} {bd : List Nat} {k : Int} (h : means bs nm bd = k) (h0 : k < 0) : seek bs nm bd = none := by
  unfold means at h
  cases hs : seek bs nm bd with
  | none => rfl
  | some i => rw [hs] at h; dsimp only at h; omega
/-- One name fresh. -/
def oneFresh (long : Nat) (bs : List (Tx × Sp)) (k : Nat) : List Tx := (List.range bs.length).map fun i => if i = k then fresh long i else (bs[i]?.map (·.1)).getD []
theorem oneFresh_getD {long k i : Nat} {bs : List (Tx × Sp)} {b : Tx × Sp} (h : bs[i]? = some b) : (oneFresh long bs k).getD i [] = if i = k then fresh long i else b.1 := by
  unfold oneFresh
  rw [List.getD_eq_getElem?_getD, List.getElem?_map, List.getElem?_range (List.getElem?_eq_some_iff.1 h).1]
  show (some _).getD [] = _
  rw [Option.getD_some]
  dsimp only
  rw [h]
  rfl
theorem fit_one {T : Tb} {row : List Nat} (_hG : Good T row) {long : Nat} (hL : Long T long) {k0 : Nat} (hk : ∀ u ∈ T.us, u.2.2 ≠ (k0 : Int)) : Fit T (oneFresh long T.bs k0) False := by
  have hlen : (oneFresh long T.bs k0).length = T.bs.length := by simp [oneFresh]
  refine ⟨hlen, fun bd nm sp k bs hbd hmem hm hbs => ?_, fun h => h.elim⟩
  rw [hlen]
  have hnl := hL.us _ hmem
  dsimp only at hnl
  have hne := hk _ hmem
  dsimp only at hne
  have hless : ∀ i ∈ bd.reverse, hasNm bs nm i = true → hasNm T.bs nm i = true := fun i hi hq => by
    have hil := hbd i (by simpa using hi)
    obtain ⟨s', hs'⟩ := hbs i hil
    have hb := List.getElem?_eq_getElem hil
    rw [hasNm_of hs', oneFresh_getD hb] at hq
    rw [hasNm_of (n := T.bs[i].1) (s := T.bs[i].2) hb]
    split at hq
    · have h1 : fresh long i = nm := by simpa using hq
      have h2 := fresh_len long i
      rw [h1] at h2
      omega
    · exact hq
  by_cases h0 : 0 ≤ k
  · have hs := means_some hm h0
    obtain ⟨hi, s, hsb⟩ := seek_some hs
    have hlt := hbd _ hi
    have hkk : k.toNat ≠ k0 := by omega
    have hg : (oneFresh long T.bs k0).getD k.toNat [] = nm := by rw [oneFresh_getD hsb, if_neg hkk]
    rw [if_pos ⟨h0, by omega⟩, hg]
    have hfind : seek bs nm bd = some k.toNat := by
      unfold seek at hs ⊢
      refine find_less hless ?_ hs
      obtain ⟨s', hs'⟩ := hbs _ hlt
      rw [hasNm_of hs', hg]
      simp
    unfold means
    rw [hfind]
    show ((k.toNat : Nat) : Int) = k
    omega
  · rw [if_neg (by omega)]
    have hs : seek bs nm bd = none := by
      have h1 := means_neg hm (by omega)
      unfold seek at h1 ⊢
      rw [List.find?_eq_none] at h1 ⊢
      intro i hi hq
      exact h1 i hi (hless i hi hq)
    rw [means_none hs, ← hm, means_none (means_neg hm (by omega))]
end Go.Scope
/- How many binders and uses there are at most. -/
namespace Go.Scope
mutual
def nP : Pat → Nat
  | .mk _ _ _ _ ps => 1 + nPs ps
def nPs : List Pat → Nat
  | [] => 0
  | p :: ps => nP p + nPs ps
end
mutual
def nE : Exr → Nat
  | .mk _ _ _ _ ps ls => 1 + nPs ps + nEs ls
def nEs : List Exr → Nat
  | [] => 0
  | e :: l => nE e + nEs l
end
end Go.Scope
/- The same expressions, with spans or without; an expression's expressions, each ahead of those in it. -/
namespace Go.Scope
mutual
def sameP (sp : Bool) : Pat → Pat → Bool
  | .mk k1 l1 s1 n1 p1, .mk k2 l2 s2 n2 p2 => (k1 == k2) && (l1 == l2) && (n1 == n2) && (!sp || s1 == s2) && samePs sp p1 p2
def samePs (sp : Bool) : List Pat → List Pat → Bool
  | [], [] => true
  | p :: ps, q :: qs => sameP sp p q && samePs sp ps qs
  | [], _ :: _ => false
  | _ :: _, [] => false
end
mutual
def sameE (sp : Bool) : Exr → Exr → Bool
  | .mk k1 s1 r1 n1 p1 l1, .mk k2 s2 r2 n2 p2 l2 => (k1 == k2) && (r1 == r2) && (n1 == n2) && (!sp || s1 == s2) && samePs sp p1 p2 && sameEs sp l1 l2
def sameEs (sp : Bool) : List Exr → List Exr → Bool
  | [], [] => true
  | p :: ps, q :: qs => sameE sp p q && sameEs sp ps qs
  | [], _ :: _ => false
  | _ :: _, [] => false
end
theorem sameP_refl (sp : Bool) : ∀ (n : Nat), (∀ p : Pat, SizeOf.sizeOf p < n → sameP sp p p = true) ∧ (∀ l : List Pat, SizeOf.sizeOf l < n → samePs sp l l = true) := by
  intro n
  induction n with
  | zero => exact ⟨fun _ h => by omega, fun _ h => by omega⟩
  | succ n ih =>
    constructor
    · intro p h
      cases p with
      | mk k lit s nm ps =>
        simp only [Pat.mk.sizeOf_spec] at h
        simp only [sameP, ih.2 ps (by omega)]
        simp
    · intro l h
      cases l with
      | nil => simp only [samePs]
      | cons p l =>
        simp only [List.cons.sizeOf_spec] at h
        simp only [samePs, ih.1 p (by omega), ih.2 l (by omega), Bool.and_self]
theorem sameE_refl (sp : Bool) : ∀ (n : Nat), (∀ e : Exr, SizeOf.sizeOf e < n → sameE sp e e = true) ∧ (∀ l : List Exr, SizeOf.sizeOf l < n → sameEs sp l l = true) := by
  intro n
  induction n with
  | zero => exact ⟨fun _ h => by omega, fun _ h => by omega⟩
  | succ n ih =>
    constructor
    · intro p h
      cases p with
      | mk k s rc nm ps ls =>
        simp only [Exr.mk.sizeOf_spec] at h
        simp only [sameE, ih.2 ls (by omega), (sameP_refl sp _).2 ps (Nat.lt_succ_self _)]
        simp
    · intro l h
      cases l with
      | nil => simp only [sameEs]
      | cons p l =>
        simp only [List.cons.sizeOf_spec] at h
        simp only [sameEs, ih.1 p (by omega), ih.2 l (by omega), Bool.and_self]
theorem same_refl (sp : Bool) (e : Exr) : sameE sp e e = true := (sameE_refl sp _).1 e (Nat.lt_succ_self _)
theorem samePs_len {sp : Bool} : ∀ {l m : List Pat}, l.length ≠ m.length → samePs sp l m = false
  | [], [], h => absurd rfl h
  | p :: l, q :: m, h => by simp only [samePs, samePs_len (l := l) (m := m) (by simpa using h), Bool.and_false]
  | [], _ :: _, _ => by simp only [samePs]
  | _ :: _, [], _ => by simp only [samePs]
theorem sameEs_len {sp : Bool} : ∀ {l m : List Exr}, l.length ≠ m.length → sameEs sp l m = false
  | [], [], h => absurd rfl h
  | p :: l, q :: m, h => by simp only [sameEs, sameEs_len (l := l) (m := m) (by simpa using h), Bool.and_false]
  | [], _ :: _, _ => by simp only [sameEs]
  | _ :: _, [], _ => by simp only [sameEs]
mutual
/-- All expressions of one, each ahead of those in it. -/
def allE : Exr → List Exr
  | .mk k sp rc nm ps ls => .mk k sp rc nm ps ls :: allEs ls
def allEs : List Exr → List Exr
  | [] => []
  | e :: l => allE e ++ allEs l
end
theorem allE_len : ∀ (n : Nat), (∀ e : Exr, SizeOf.sizeOf e < n → (allE e).length ≤ nE e) ∧ (∀ l : List Exr, SizeOf.sizeOf l < n → (allEs l).length ≤ nEs l) := by
  intro n
  induction n with
  | zero => exact ⟨fun _ h => by omega, fun _ h => by omega⟩
  | succ n ih =>
    constructor
    · intro p h
      cases p with
      | mk k s rc nm ps ls =>
        simp only [Exr.mk.sizeOf_spec] at h
        simp only [allE, nE, List.length_cons]
        have := ih.2 ls (by omega)
        omega
    · intro l h
      cases l with
      | nil => simp only [allEs, nEs, List.length_nil]; omega
      | cons p l =>
        simp only [List.cons.sizeOf_spec] at h
        simp only [allEs, nEs, List.length_append]
        have := ih.1 p (by omega)
        have := ih.2 l (by omega)
        omega
theorem all_len (e : Exr) : (allE e).length ≤ nE e := (allE_len _).1 e (Nat.lt_succ_self _)
theorem all_pos (e : Exr) : 1 ≤ (allE e).length := by
  cases e with
  | mk k s rc nm ps ls => simp only [allE, List.length_cons]; omega
end Go.Scope
