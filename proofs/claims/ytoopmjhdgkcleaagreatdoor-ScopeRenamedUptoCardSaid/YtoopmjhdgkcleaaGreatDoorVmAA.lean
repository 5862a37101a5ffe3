/-
  (A part of the proof: ScopeSpec, ScopeRen, ScopeLaw, ScopeMap, ScopeCnt, ScopeRenC, ScopeRenD.)
-/
/- What names mean, ls plain functions. -/
namespace Go.Scope

abbrev Tx := List UInt8
abbrev Sp := Int × Int
inductive Pat where
  | mk (k lit : Nat) (sp : Sp) (nm : Tx) (ps : List Pat)
  deriving Inhabited
inductive Exr where
  | mk (k : Nat) (sp : Sp) (rc : Bool) (nm : Tx) (ps : List Pat) (ls : List Exr)
  deriving Inhabited
structure Bd where
  sp : Sp
  rc : Bool
  ps : List Pat
  body : Exr
structure Tb where
  bs : List (Tx × Sp)
  us : List (Tx × Sp × Int)
  tw : List Nat
def Tb.none : Tb := ⟨[], [], []⟩

/-- A binder more, of a group that began there. -/
def bindT (fr : Nat) (nm : Tx) (sp : Sp) (t : Tb) : Tb := ⟨t.bs ++ [(nm, sp)], t.us, if (t.bs.drop fr).any (fun b => b.1 == nm) = true then t.tw ++ [t.bs.length] else t.tw⟩
mutual
def grp (fr : Nat) : Pat → Tb → List Nat → Tb × List Nat
  | .mk k _ sp nm ps, t, bd => if k = 15 then grps fr ps (bindT fr nm sp t) (bd ++ [t.bs.length]) else grps fr ps t bd
def grps (fr : Nat) : List Pat → Tb → List Nat → Tb × List Nat
  | [], t, bd => (t, bd)
  | p :: ps, t, bd => grps fr ps (grp fr p t bd).1 (grp fr p t bd).2
end
def binders (ps : List Pat) (t : Tb) (bd : List Nat) : Tb × List Nat := grps t.bs.length ps t bd
def sNot : Tx := [110, 111, 116]
def sFst : Tx := [102, 115, 116]
def sSnd : Tx := [115, 110, 100]
def sFloat : Tx := [102, 108, 111, 97, 116]
def given (nm : Tx) : Bool := [sNot, sFst, sSnd, sFloat].any fun s => s == nm
/-- Has that binder that name? -/
def hasNm (bs : List (Tx × Sp)) (nm : Tx) (i : Nat) : Bool := (bs[i]?.map (·.1)) == some nm
/-- The last one of some binders that has a name. -/
def seek (bs : List (Tx × Sp)) (nm : Tx) (bd : List Nat) : Option Nat := bd.reverse.find? (hasNm bs nm)
def means (bs : List (Tx × Sp)) (nm : Tx) (bd : List Nat) : Int :=
  match seek bs nm bd with
  | some i => (i : Int)
  | none => if given nm = true then -2 else -1
def useT (nm : Tx) (sp : Sp) (t : Tb) (bd : List Nat) : Tb := ⟨t.bs, t.us ++ [(nm, sp, means t.bs nm bd)], t.tw⟩
/-- A let's patterns: the table, what is bound behind it, what is bound in what it is. -/
def two (rc : Bool) (ps : List Pat) (t : Tb) (bd : List Nat) : Tb × List Nat × List Nat :=
  let r := binders (ps.take 1) t bd
  let q := binders (ps.drop 1) r.1 (if rc = true then r.2 else bd)
  (q.1, r.2, q.2)
/-- Patterns, each a group of its own. -/
def alls : List Pat → Tb → List Nat → Tb
  | [], t, _ => t
  | p :: ps, t, bd => alls ps (binders [p] t bd).1 bd
mutual
def expr : Exr → Tb → List Nat → Tb
  | .mk k sp rc nm ps ls, t, bd =>
    if k = 11 then exprs ls (binders ps t bd).1 (binders ps t bd).2
    else if k = 14 then letA ls (two rc ps t bd).1 (two rc ps t bd).2.1 (two rc ps t bd).2.2
    else if k = 13 then matchA ls ps t bd
    else exprs ls (if k = 1 then useT nm sp t bd else t) bd
def exprs : List Exr → Tb → List Nat → Tb
  | [], t, _ => t
  | e :: l, t, bd => exprs l (expr e t bd) bd
def letA : List Exr → Tb → List Nat → List Nat → Tb
  | [], t, _, _ => t
  | a :: r, t, first, inner => exprs r (expr a t inner) first
def matchA : List Exr → List Pat → Tb → List Nat → Tb
  | [], ps, t, bd => alls ps t bd
  | a :: r, ps, t, bd => armsA r ps (expr a t bd) bd
def armsA : List Exr → List Pat → Tb → List Nat → Tb
  | [], ps, t, bd => alls ps t bd
  | e :: r, [], t, bd => armsA r [] (expr e t bd) bd
  | e :: r, p :: ps, t, bd => armsA r ps (expr e (binders [p] t bd).1 (binders [p] t bd).2) bd
end
def decls : List Bd → Tb → List Nat → Tb
  | [], t, _ => t
  | d :: l, t, row => decls l (expr d.body (two d.rc d.ps t row).1 (two d.rc d.ps t row).2.2) (two d.rc d.ps t row).2.1
def ofS (l : List Bd) : Tb := decls l Tb.none []

/-! What grows. -/
structure Ext (t t' : Tb) : Prop where
  bs : ∃ x, t'.bs = t.bs ++ x
  us : ∃ x, t'.us = t.us ++ x
  tw : ∃ x, t'.tw = t.tw ++ x
theorem Ext.refl (t : Tb) : Ext t t := ⟨⟨[], by simp⟩, ⟨[], by simp⟩, ⟨[], by simp⟩⟩
theorem Ext.trans {a b c : Tb} (h : Ext a b) (k : Ext b c) : Ext a c := by
  obtain ⟨⟨x1, h1⟩, ⟨x2, h2⟩, ⟨x3, h3⟩⟩ := h
  obtain ⟨⟨y1, k1⟩, ⟨y2, k2⟩, ⟨y3, k3⟩⟩ := k
  exact ⟨⟨x1 ++ y1, by rw [k1, h1, List.append_assoc]⟩, ⟨x2 ++ y2, by rw [k2, h2, List.append_assoc]⟩, ⟨x3 ++ y3, by rw [k3, h3, List.append_assoc]⟩⟩
theorem ext_bind (fr : Nat) (nm : Tx) (sp : Sp) (t : Tb) : Ext t (bindT fr nm sp t) := by
  refine ⟨⟨_, rfl⟩, ⟨[], by simp [bindT]⟩, ?_⟩
  unfold bindT
  dsimp only
  split
  · exact ⟨_, rfl⟩
  · exact ⟨[], by simp⟩
/-- An invariant of patterns: of a table and of what is bound. -/
theorem grps_inv {I : Tb → List Nat → Prop} {fr : Nat} (hb : ∀ nm sp t bd, fr ≤ t.bs.length → I t bd → I (bindT fr nm sp t) (bd ++ [t.bs.length])) : ∀ (n : Nat),
    (∀ (p : Pat) t bd, SizeOf.sizeOf p < n → fr ≤ t.bs.length → I t bd → I (grp fr p t bd).1 (grp fr p t bd).2 ∧ fr ≤ (grp fr p t bd).1.bs.length) ∧
    (∀ (ps : List Pat) t bd, SizeOf.sizeOf ps < n → fr ≤ t.bs.length → I t bd → I (grps fr ps t bd).1 (grps fr ps t bd).2 ∧ fr ≤ (grps fr ps t bd).1.bs.length) := by
  intro n
  induction n with
  | zero => exact ⟨fun _ _ _ h => by omega, fun _ _ _ h => by omega⟩
  | succ n ih =>
    constructor
    · intro p t bd h hf hi
      cases p with
      | mk k lit sp nm ps =>
        simp only [Pat.mk.sizeOf_spec] at h
        simp only [grp]
        split
        · refine ih.2 ps _ _ (by omega) ?_ (hb nm sp t bd hf hi)
          show fr ≤ (t.bs ++ [(nm, sp)]).length
          rw [List.length_append]; omega
        · exact ih.2 ps _ _ (by omega) hf hi
    · intro ps t bd h hf hi
      cases ps with
      | nil => simp only [grps]; exact ⟨hi, hf⟩
      | cons p ps =>
        simp only [List.cons.sizeOf_spec] at h
        simp only [grps]
        obtain ⟨h1, h2⟩ := ih.1 p t bd (by omega) hf hi
        exact ih.2 ps _ _ (by omega) h2 h1
theorem binders_inv {I : Tb → List Nat → Prop} {ps : List Pat} {t : Tb} {bd : List Nat} (hb : ∀ nm sp u b, t.bs.length ≤ u.bs.length → I u b → I (bindT t.bs.length nm sp u) (b ++ [u.bs.length])) (h : I t bd) : I (binders ps t bd).1 (binders ps t bd).2 :=
  ((grps_inv (I := I) hb _).2 ps t bd (Nat.lt_succ_self _) (Nat.le_refl _) h).1
theorem two_inv {I : Tb → List Nat → Prop} {rc : Bool} {ps : List Pat} {t : Tb} {bd : List Nat} (hb : ∀ fr nm sp u b, fr ≤ u.bs.length → I u b → I (bindT fr nm sp u) (b ++ [u.bs.length]))
    (hm : ∀ u v b c, Ext u v → I u b → I v c → I v b) (hx : ∀ ps u b, I u b → Ext u (binders ps u b).1) (h : I t bd) : I (two rc ps t bd).1 (two rc ps t bd).2.1 ∧ I (two rc ps t bd).1 (two rc ps t bd).2.2 ∧ I (two rc ps t bd).1 bd := by
  have h1 := binders_inv (I := I) (ps := ps.take 1) (fun nm sp u b hf hi => hb _ nm sp u b hf hi) h
  have e1 := hx (ps.take 1) t bd h
  have h0 := hm _ _ _ _ e1 h h1
  have h2 : I (binders (ps.take 1) t bd).1 (if rc = true then (binders (ps.take 1) t bd).2 else bd) := by split <;> assumption
  have h3 := binders_inv (I := I) (ps := ps.drop 1) (fun nm sp u b hf hi => hb _ nm sp u b hf hi) h2
  have e2 := hx (ps.drop 1) _ _ h2
  exact ⟨hm _ _ _ _ e2 h1 h3, h3, hm _ _ _ _ e2 h0 h3⟩
theorem binders_ext (ps : List Pat) (t : Tb) (bd : List Nat) : Ext t (binders ps t bd).1 :=
  binders_inv (I := fun u _ => Ext t u) (fun nm sp u _ _ h => h.trans (ext_bind _ nm sp u)) (Ext.refl t)
/-- An invariant of expressions. -/
theorem expr_inv {I : Tb → List Nat → Prop} (hb : ∀ fr nm sp u b, fr ≤ u.bs.length → I u b → I (bindT fr nm sp u) (b ++ [u.bs.length])) (hm : ∀ u v b c, Ext u v → I u b → I v c → I v b)
    (hu : ∀ nm sp t bd, I t bd → I (useT nm sp t bd) bd) : ∀ (n : Nat),
    (∀ (e : Exr) t bd, SizeOf.sizeOf e < n → I t bd → I (expr e t bd) bd ∧ Ext t (expr e t bd)) ∧
    (∀ (l : List Exr) t bd, SizeOf.sizeOf l < n → I t bd → I (exprs l t bd) bd ∧ Ext t (exprs l t bd)) ∧
    (∀ (l : List Exr) ps t bd, SizeOf.sizeOf l < n → I t bd → I (armsA l ps t bd) bd ∧ Ext t (armsA l ps t bd)) := by
  have hal : ∀ (ps : List Pat) t bd, I t bd → I (alls ps t bd) bd ∧ Ext t (alls ps t bd) := by
    intro ps
    induction ps with
    | nil => intro t bd h; simp only [alls]; exact ⟨h, Ext.refl t⟩
    | cons p ps ih =>
      intro t bd h
      simp only [alls]
      have h1 := binders_inv (I := I) (ps := [p]) (fun nm sp u b hf hi => hb _ nm sp u b hf hi) h
      have e1 := binders_ext [p] t bd
      obtain ⟨k1, k2⟩ := ih _ bd (hm _ _ _ _ e1 h h1)
      exact ⟨k1, e1.trans k2⟩
  intro n
  induction n with
  | zero => exact ⟨fun _ _ _ h => by omega, fun _ _ _ h => by omega, fun _ _ _ _ h => by omega⟩
  | succ n ih =>
    refine ⟨?_, ?_, ?_⟩
    · intro e t bd h hi
      cases e with
      | mk k sp rc nm ps ls =>
        simp only [Exr.mk.sizeOf_spec] at h
        simp only [expr]
        split
        · have h1 := binders_inv (I := I) (ps := ps) (fun nm sp u b hf hi => hb _ nm sp u b hf hi) hi
          have e1 := binders_ext ps t bd
          obtain ⟨k1, k2⟩ := ih.2.1 ls _ _ (by omega) h1
          exact ⟨hm _ _ _ _ (e1.trans k2) hi k1, e1.trans k2⟩
        split
        · obtain ⟨h1, h2, h3⟩ := two_inv (I := I) (rc := rc) (ps := ps) hb hm (fun ps u b _ => binders_ext ps u b) hi
          have e1 : Ext t (two rc ps t bd).1 := (binders_ext _ _ _).trans (binders_ext _ _ _)
          cases ls with
          | nil => simp only [letA]; exact ⟨h3, e1⟩
          | cons a r =>
            simp only [List.cons.sizeOf_spec] at h
            simp only [letA]
            obtain ⟨k1, k2⟩ := ih.1 a _ _ (by omega) h2
            obtain ⟨j1, j2⟩ := ih.2.1 r _ _ (by omega) (hm _ _ _ _ k2 h1 k1)
            exact ⟨hm _ _ _ _ (k2.trans j2) h3 j1, e1.trans (k2.trans j2)⟩
        split
        · cases ls with
          | nil => simp only [matchA]; exact hal ps t bd hi
          | cons a r =>
            simp only [List.cons.sizeOf_spec] at h
            simp only [matchA]
            obtain ⟨k1, k2⟩ := ih.1 a _ _ (by omega) hi
            obtain ⟨j1, j2⟩ := ih.2.2 r ps _ _ (by omega) k1
            exact ⟨j1, k2.trans j2⟩
        · split
          · have e1 : Ext t (useT nm sp t bd) := ⟨⟨[], by simp [useT]⟩, ⟨_, rfl⟩, ⟨[], by simp [useT]⟩⟩
            obtain ⟨k1, k2⟩ := ih.2.1 ls _ _ (by omega) (hu nm sp t bd hi)
            exact ⟨k1, e1.trans k2⟩
          · exact ih.2.1 ls _ _ (by omega) hi
    · intro l t bd h hi
      cases l with
      | nil => simp only [exprs]; exact ⟨hi, Ext.refl t⟩
      | cons a r =>
        simp only [List.cons.sizeOf_spec] at h
        simp only [exprs]
        obtain ⟨k1, k2⟩ := ih.1 a t bd (by omega) hi
        obtain ⟨j1, j2⟩ := ih.2.1 r _ _ (by omega) k1
        exact ⟨j1, k2.trans j2⟩
    · intro l ps t bd h hi
      cases l with
      | nil => simp only [armsA]; exact hal ps t bd hi
      | cons a r =>
        simp only [List.cons.sizeOf_spec] at h
        cases ps with
        | nil =>
          simp only [armsA]
          obtain ⟨k1, k2⟩ := ih.1 a t bd (by omega) hi
          obtain ⟨j1, j2⟩ := ih.2.2 r [] _ _ (by omega) k1
          exact ⟨j1, k2.trans j2⟩
        | cons p ps =>
          simp only [armsA]
          have h1 := binders_inv (I := I) (ps := [p]) (fun nm sp u b hf hi => hb _ nm sp u b hf hi) hi
          have e1 := binders_ext [p] t bd
          obtain ⟨k1, k2⟩ := ih.1 a _ _ (by omega) h1
          obtain ⟨j1, j2⟩ := ih.2.2 r ps _ _ (by omega) (hm _ _ _ _ (e1.trans k2) hi k1)
          exact ⟨j1, (e1.trans k2).trans j2⟩
theorem decls_inv {I : Tb → List Nat → Prop} (hb : ∀ fr nm sp u b, fr ≤ u.bs.length → I u b → I (bindT fr nm sp u) (b ++ [u.bs.length])) (hm : ∀ u v b c, Ext u v → I u b → I v c → I v b)
    (hu : ∀ nm sp t bd, I t bd → I (useT nm sp t bd) bd) : ∀ (l : List Bd) t row, I t row → (∃ row', I (decls l t row) row') ∧ Ext t (decls l t row)
  | [], t, row, h => by simp only [decls]; exact ⟨⟨row, h⟩, Ext.refl t⟩
  | d :: l, t, row, h => by
    simp only [decls]
    obtain ⟨h1, h2, h3⟩ := two_inv (I := I) (rc := d.rc) (ps := d.ps) hb hm (fun ps u b _ => binders_ext ps u b) h
    have e1 : Ext t (two d.rc d.ps t row).1 := (binders_ext _ _ _).trans (binders_ext _ _ _)
    obtain ⟨k1, k2⟩ := (expr_inv hb hm hu _).1 d.body _ _ (Nat.lt_succ_self _) h2
    obtain ⟨j1, j2⟩ := decls_inv hb hm hu l _ _ (hm _ _ _ _ k2 h1 k1)
    exact ⟨j1, e1.trans (k2.trans j2)⟩
/-! What a table is like. -/
def useOk (bs : List (Tx × Sp)) (u : Tx × Sp × Int) : Prop := (∃ k : Nat, u.2.2 = (k : Int) ∧ ∃ s, bs[k]? = some (u.1, s)) ∨ (u.2.2 = -2 ∧ given u.1 = true) ∨ (u.2.2 = -1 ∧ given u.1 = false)
structure Good (t : Tb) (bd : List Nat) : Prop where
  us : ∀ u ∈ t.us, useOk t.bs u
  bd : ∀ i ∈ bd, i < t.bs.length
  tw : ∀ i ∈ t.tw, 1 ≤ i ∧ i < t.bs.length
  up : t.tw.Pairwise (· < ·)
theorem useOk.ext {bs x : List (Tx × Sp)} {u : Tx × Sp × Int} (h : useOk bs u) : useOk (bs ++ x) u := by
  rcases h with ⟨k, h1, s, h2⟩ | h | h
  · refine .inl ⟨k, h1, s, ?_⟩
    rw [List.getElem?_append_left (List.getElem?_eq_some_iff.1 h2).1]
    exact h2
  · exact .inr (.inl h)
  · exact .inr (.inr h)
theorem seek_some {bs : List (Tx × Sp)} {nm : Tx} {bd : List Nat} {i : Nat} (h : seek bs nm bd = some i) : i ∈ bd ∧ ∃ s, bs[i]? = some (nm, s) := by
  unfold seek at h
  have h1 := List.find?_some h
  have h2 := List.mem_of_find?_eq_some h
  refine ⟨by simpa using h2, ?_⟩
  unfold hasNm at h1
  cases hb : bs[i]? with
  | none => rw [hb] at h1; simp at h1
  | some b =>
    rw [hb] at h1
    simp only [Option.map_some, beq_iff_eq, Option.some.injEq] at h1
    exact ⟨b.2, by rw [← h1]⟩
theorem means_ok (bs : List (Tx × Sp)) (nm : Tx) (sp : Sp) (bd : List Nat) : useOk bs (nm, sp, means bs nm bd) := by
  unfold means
  cases h : seek bs nm bd with
  | some i =>
    obtain ⟨_, s, hs⟩ := seek_some h
    exact .inl ⟨i, rfl, s, hs⟩
  | none =>
    cases hg : given nm with
    | true => exact .inr (.inl ⟨rfl, hg⟩)
    | false => exact .inr (.inr ⟨rfl, hg⟩)
theorem good_bind (fr : Nat) (nm : Tx) (sp : Sp) (t : Tb) (bd : List Nat) (_hf : fr ≤ t.bs.length) (h : Good t bd) : Good (bindT fr nm sp t) (bd ++ [t.bs.length]) := by
  have hl : (bindT fr nm sp t).bs.length = t.bs.length + 1 := by show (t.bs ++ [(nm, sp)]).length = _; simp
  refine ⟨fun u hu => (h.us u hu).ext, fun i hi => ?_, fun i hi => ?_, ?_⟩
  · rw [hl]
    rcases List.mem_append.1 hi with hi | hi
    · have := h.bd i hi; omega
    · have : i = t.bs.length := by simpa using hi
      omega
  · rw [hl]
    unfold bindT at hi
    dsimp only at hi
    split at hi
    · rename_i ha
      rcases List.mem_append.1 hi with hi | hi
      · have := h.tw i hi; omega
      · have hi : i = t.bs.length := by simpa using hi
        obtain ⟨b, hb, _⟩ := List.any_eq_true.1 ha
        have := List.length_pos_of_mem (List.mem_of_mem_drop hb)
        omega
    · have := h.tw i hi; omega
  · unfold bindT
    dsimp only
    split
    · refine List.pairwise_append.2 ⟨h.up, List.pairwise_singleton _ _, fun a ha b hb => ?_⟩
      have hb : b = t.bs.length := by simpa using hb
      have := h.tw a ha
      omega
    · exact h.up
theorem good_mono (u v : Tb) (b c : List Nat) (e : Ext u v) (h : Good u b) (k : Good v c) : Good v b := by
  refine ⟨k.us, fun i hi => ?_, k.tw, k.up⟩
  obtain ⟨x, hx⟩ := e.bs
  have := h.bd i hi
  rw [hx, List.length_append]
  omega
theorem good_use (nm : Tx) (sp : Sp) (t : Tb) (bd : List Nat) (h : Good t bd) : Good (useT nm sp t bd) bd := by
  refine ⟨fun u hu => ?_, h.bd, h.tw, h.up⟩
  rcases List.mem_append.1 hu with hu | hu
  · exact h.us u hu
  · have hu : u = (nm, sp, means t.bs nm bd) := by simpa using hu
    subst hu
    exact means_ok _ _ _ _
theorem good_of (l : List Bd) : ∃ row, Good (ofS l) row :=
  (decls_inv good_bind good_mono good_use l Tb.none [] ⟨(fun _ h => by cases h), (fun _ h => by cases h), (fun _ h => by cases h), List.Pairwise.nil⟩).1
end Go.Scope
/- Other names for binders, and their uses with them. -/
namespace Go.Scope

def nmAt (nms : List Tx) (b : Nat) (nm : Tx) : Tx := if b < nms.length then nms.getD b [] else nm
mutual
def renP (nms : List Tx) : Pat → Nat → Pat × Nat
  | .mk k lit sp nm ps, b =>
    if k = 15 then (.mk k lit sp (nmAt nms b nm) (renPs nms ps (b + 1)).1, (renPs nms ps (b + 1)).2)
    else (.mk k lit sp nm (renPs nms ps b).1, (renPs nms ps b).2)
def renPs (nms : List Tx) : List Pat → Nat → List Pat × Nat
  | [], b => ([], b)
  | p :: ps, b => ((renP nms p b).1 :: (renPs nms ps (renP nms p b).2).1, (renPs nms ps (renP nms p b).2).2)
end
/-- The name of a use. -/
def useNm (us : List (Tx × Sp × Int)) (nms : List Tx) (u : Nat) (nm : Tx) : Tx :=
  match us[u]? with
  | some x => if 0 ≤ x.2.2 ∧ x.2.2 < (nms.length : Int) then nms.getD x.2.2.toNat [] else nm
  | none => nm
/-- Patterns, each one by itself. -/
def renAll (nms : List Tx) : List Pat → Nat → List Pat × Nat
  | [], b => ([], b)
  | p :: ps, b => ((renPs nms [p] b).1 ++ (renAll nms ps (renPs nms [p] b).2).1, (renAll nms ps (renPs nms [p] b).2).2)
mutual
def renE (us : List (Tx × Sp × Int)) (nms : List Tx) : Exr → Nat → Nat → Exr × Nat × Nat
  | .mk k sp rc nm ps ls, b, u =>
    if k = 13 then
      (.mk k sp rc nm (renM us nms ls ps b u).1 (renM us nms ls ps b u).2.1, (renM us nms ls ps b u).2.2)
    else if k = 11 ∨ k = 14 then
      (.mk k sp rc nm (renPs nms ps b).1 (renEs us nms ls (renPs nms ps b).2 u).1, (renEs us nms ls (renPs nms ps b).2 u).2)
    else if k = 1 then
      (.mk k sp rc (useNm us nms u nm) ps (renEs us nms ls b (u + 1)).1, (renEs us nms ls b (u + 1)).2)
    else (.mk k sp rc nm ps (renEs us nms ls b u).1, (renEs us nms ls b u).2)
def renEs (us : List (Tx × Sp × Int)) (nms : List Tx) : List Exr → Nat → Nat → List Exr × Nat × Nat
  | [], b, u => ([], b, u)
  | e :: l, b, u => ((renE us nms e b u).1 :: (renEs us nms l (renE us nms e b u).2.1 (renE us nms e b u).2.2).1, (renEs us nms l (renE us nms e b u).2.1 (renE us nms e b u).2.2).2)
def renM (us : List (Tx × Sp × Int)) (nms : List Tx) : List Exr → List Pat → Nat → Nat → List Pat × List Exr × Nat × Nat
  | [], ps, b, u => ((renAll nms ps b).1, [], (renAll nms ps b).2, u)
  | a :: r, ps, b, u => ((renArms us nms r ps (renE us nms a b u).2.1 (renE us nms a b u).2.2).1, (renE us nms a b u).1 :: (renArms us nms r ps (renE us nms a b u).2.1 (renE us nms a b u).2.2).2.1, (renArms us nms r ps (renE us nms a b u).2.1 (renE us nms a b u).2.2).2.2)
def renArms (us : List (Tx × Sp × Int)) (nms : List Tx) : List Exr → List Pat → Nat → Nat → List Pat × List Exr × Nat × Nat
  | [], ps, b, u => ((renAll nms ps b).1, [], (renAll nms ps b).2, u)
  | e :: r, [], b, u => ((renArms us nms r [] (renE us nms e b u).2.1 (renE us nms e b u).2.2).1, (renE us nms e b u).1 :: (renArms us nms r [] (renE us nms e b u).2.1 (renE us nms e b u).2.2).2.1, (renArms us nms r [] (renE us nms e b u).2.1 (renE us nms e b u).2.2).2.2)
  | e :: r, p :: ps, b, u =>
    ((renPs nms [p] b).1 ++ (renArms us nms r ps (renE us nms e (renPs nms [p] b).2 u).2.1 (renE us nms e (renPs nms [p] b).2 u).2.2).1,
     (renE us nms e (renPs nms [p] b).2 u).1 :: (renArms us nms r ps (renE us nms e (renPs nms [p] b).2 u).2.1 (renE us nms e (renPs nms [p] b).2 u).2.2).2.1,
     (renArms us nms r ps (renE us nms e (renPs nms [p] b).2 u).2.1 (renE us nms e (renPs nms [p] b).2 u).2.2).2.2)
end
def renD (us : List (Tx × Sp × Int)) (nms : List Tx) : List Bd → Nat → Nat → List Bd
  | [], _, _ => []
  | d :: l, b, u => ⟨d.sp, d.rc, (renPs nms d.ps b).1, (renE us nms d.body (renPs nms d.ps b).2 u).1⟩ :: renD us nms l (renE us nms d.body (renPs nms d.ps b).2 u).2.1 (renE us nms d.body (renPs nms d.ps b).2 u).2.2
theorem renPs_app (nms : List Tx) : ∀ (l m : List Pat) (b : Nat), renPs nms (l ++ m) b = ((renPs nms l b).1 ++ (renPs nms m (renPs nms l b).2).1, (renPs nms m (renPs nms l b).2).2)
  | [], m, b => by simp [renPs]
  | p :: l, m, b => by simp only [List.cons_append, renPs, renPs_app nms l m]
theorem renPs_len (nms : List Tx) : ∀ (l : List Pat) (b : Nat), (renPs nms l b).1.length = l.length
  | [], b => by simp [renPs]
  | p :: l, b => by simp only [renPs, List.length_cons, renPs_len nms l]

section
variable (T : Tb) (nms : List Tx)
/-- Names that may be put. -/
structure Fit (D : Prop) : Prop where
  len : nms.length = T.bs.length
  use : ∀ (bd : List Nat) (nm : Tx) (sp : Sp) (k : Int) (bs : List (Tx × Sp)), (∀ i ∈ bd, i < T.bs.length) → (nm, sp, k) ∈ T.us → means T.bs nm bd = k → (∀ i, i < T.bs.length → ∃ s, bs[i]? = some (nms.getD i [], s)) →
    means bs (if 0 ≤ k ∧ k < (nms.length : Int) then nms.getD k.toNat [] else nm) bd = k
  dis : D → ∀ i j, i < j → j < T.bs.length → nms.getD i [] ≠ nms.getD j []
/-- The same but for names. -/
structure Rl (D : Prop) (t t' : Tb) : Prop where
  len : t'.bs.length = t.bs.length
  bs : ∀ (i : Nat) (b : Tx × Sp), t.bs[i]? = some b → t'.bs[i]? = some (nms.getD i [], b.2)
  us : t'.us.map (·.2) = t.us.map (·.2)
  tw : D → t'.tw = []
variable {T nms} {D : Prop}
theorem seek_bs {bs bs' : List (Tx × Sp)} {nm : Tx} : ∀ {bd : List Nat}, (∀ i ∈ bd, hasNm bs nm i = hasNm bs' nm i) → seek bs nm bd = seek bs' nm bd := by
  intro bd h
  unfold seek
  have h' : ∀ i ∈ bd.reverse, hasNm bs nm i = hasNm bs' nm i := fun i hi => h i (by simpa using hi)
  generalize bd.reverse = l at h'
  induction l with
  | nil => rfl
  | cons a l ih =>
    simp only [List.find?_cons]
    rw [h' a List.mem_cons_self, ih fun i hi => h' i (List.mem_cons_of_mem _ hi)]
theorem means_bs {bs bs' : List (Tx × Sp)} {nm : Tx} {bd : List Nat} (h : ∀ i ∈ bd, hasNm bs nm i = hasNm bs' nm i) : means bs nm bd = means bs' nm bd := by
  unfold means
  rw [seek_bs h]
theorem means_ext {t : Tb} {T : Tb} (e : Ext t T) {bd : List Nat} (hb : ∀ i ∈ bd, i < t.bs.length) (nm : Tx) : means t.bs nm bd = means T.bs nm bd := by
  obtain ⟨x, hx⟩ := e.bs
  unfold means
  rw [seek_bs (bs' := T.bs) fun i hi => by
    unfold hasNm
    rw [hx, List.getElem?_append_left (hb i hi)]]
theorem rl_bind (hF : Fit T nms D) {fr : Nat} {nm : Tx} {sp : Sp} {t t' : Tb} (h : Rl nms D t t') (he : Ext (bindT fr nm sp t) T) : Rl nms D (bindT fr nm sp t) (bindT fr (nmAt nms t.bs.length nm) sp t') := by
  obtain ⟨x, hx⟩ := he.bs
  have hlt : t.bs.length < T.bs.length := by
    have := congrArg List.length hx
    simp only [bindT, List.length_append, List.length_cons, List.length_nil] at this
    omega
  have hnm : nmAt nms t.bs.length nm = nms.getD t.bs.length [] := by unfold nmAt; rw [if_pos (by rw [hF.len]; exact hlt)]
  refine ⟨by simp [bindT, h.len], fun i b hi => ?_, h.us, fun hD => ?_⟩
  · simp only [bindT] at hi ⊢
    rcases Nat.lt_or_ge i t.bs.length with hl | hl
    · rw [List.getElem?_append_left hl] at hi
      rw [List.getElem?_append_left (by rw [h.len]; exact hl)]
      exact h.bs i b hi
    · rw [List.getElem?_append_right hl] at hi
      rw [List.getElem?_append_right (by rw [h.len]; exact hl), h.len]
      have h0 : i - t.bs.length = 0 := by
        cases hj : i - t.bs.length with
        | zero => rfl
        | succ j => rw [hj] at hi; simp at hi
      rw [h0] at hi ⊢
      simp only [List.getElem?_cons_zero, Option.some.injEq] at hi ⊢
      rw [hnm, ← hi, show i = t.bs.length by omega]
  · have h0 := h.tw hD
    simp only [bindT]
    rw [if_neg, h0]
    intro ha
    obtain ⟨b, hb, hq⟩ := List.any_eq_true.1 ha
    obtain ⟨j, hj⟩ := List.getElem?_of_mem hb
    rw [List.getElem?_drop] at hj
    have hjl : fr + j < t.bs.length := by
      rw [← h.len]
      exact (List.getElem?_eq_some_iff.1 hj).1
    have h2 := h.bs (fr + j) t.bs[fr + j] (List.getElem?_eq_getElem hjl)
    rw [hj] at h2
    simp only [Option.some.injEq] at h2
    rw [h2, hnm] at hq
    exact hF.dis hD _ _ hjl hlt (by simpa using hq)
theorem ext_grp (fr : Nat) (p : Pat) (t : Tb) (bd : List Nat) (hf : fr ≤ t.bs.length) : Ext t (grp fr p t bd).1 ∧ fr ≤ (grp fr p t bd).1.bs.length :=
  (grps_inv (I := fun u _ => Ext t u) (fun nm sp u _ _ h => h.trans (ext_bind _ nm sp u)) _).1 p t bd (Nat.lt_succ_self _) hf (Ext.refl t)
theorem ext_grps (fr : Nat) (ps : List Pat) (t : Tb) (bd : List Nat) (hf : fr ≤ t.bs.length) : Ext t (grps fr ps t bd).1 ∧ fr ≤ (grps fr ps t bd).1.bs.length :=
  (grps_inv (I := fun u _ => Ext t u) (fun nm sp u _ _ h => h.trans (ext_bind _ nm sp u)) _).2 ps t bd (Nat.lt_succ_self _) hf (Ext.refl t)
theorem ren_grp (hF : Fit T nms D) (fr : Nat) : ∀ (n : Nat),
    (∀ (p : Pat) t t' bd, SizeOf.sizeOf p < n → fr ≤ t.bs.length → Rl nms D t t' → Ext (grp fr p t bd).1 T →
      Rl nms D (grp fr p t bd).1 (grp fr (renP nms p t.bs.length).1 t' bd).1 ∧ (grp fr (renP nms p t.bs.length).1 t' bd).2 = (grp fr p t bd).2 ∧ (renP nms p t.bs.length).2 = (grp fr p t bd).1.bs.length) ∧
    (∀ (ps : List Pat) t t' bd, SizeOf.sizeOf ps < n → fr ≤ t.bs.length → Rl nms D t t' → Ext (grps fr ps t bd).1 T →
      Rl nms D (grps fr ps t bd).1 (grps fr (renPs nms ps t.bs.length).1 t' bd).1 ∧ (grps fr (renPs nms ps t.bs.length).1 t' bd).2 = (grps fr ps t bd).2 ∧ (renPs nms ps t.bs.length).2 = (grps fr ps t bd).1.bs.length) := by
  intro n
  induction n with
  | zero => exact ⟨fun _ _ _ _ h => by omega, fun _ _ _ _ h => by omega⟩
  | succ n ih =>
    constructor
    · intro p t t' bd h hf hr he
      cases p with
      | mk k lit sp nm ps =>
        simp only [Pat.mk.sizeOf_spec] at h
        by_cases hk : k = 15
        · have hbl : (bindT fr nm sp t).bs.length = t.bs.length + 1 := by simp [bindT]
          simp only [grp, renP, if_pos hk] at he ⊢
          have he' : Ext (bindT fr nm sp t) T := (ext_grps fr ps _ _ (by omega)).1.trans he
          obtain ⟨k1, k2, k3⟩ := ih.2 ps _ _ (bd ++ [t.bs.length]) (by omega) (by omega) (rl_bind hF hr he') he
          rw [hbl] at k1 k2 k3
          rw [hr.len]
          exact ⟨k1, k2, k3⟩
        · simp only [grp, renP, if_neg hk] at he ⊢
          exact ih.2 ps t t' bd (by omega) hf hr he
    · intro ps t t' bd h hf hr he
      cases ps with
      | nil => simp only [grps, renPs]; exact ⟨hr, trivial, trivial⟩
      | cons p ps =>
        simp only [List.cons.sizeOf_spec] at h
        simp only [grps, renPs] at he ⊢
        have e1 := ext_grp fr p t bd hf
        have e2 := ext_grps fr ps _ (grp fr p t bd).2 e1.2
        obtain ⟨k1, k2, k3⟩ := ih.1 p t t' bd (by omega) hf hr (e2.1.trans he)
        obtain ⟨j1, j2, j3⟩ := ih.2 ps _ _ (grp fr p t bd).2 (by omega) e1.2 k1 he
        rw [k3, k2]
        exact ⟨j1, j2, j3⟩
theorem ren_binders (hF : Fit T nms D) {ps : List Pat} {t t' : Tb} {bd : List Nat} (hr : Rl nms D t t') (he : Ext (binders ps t bd).1 T) :
    Rl nms D (binders ps t bd).1 (binders (renPs nms ps t.bs.length).1 t' bd).1 ∧ (binders (renPs nms ps t.bs.length).1 t' bd).2 = (binders ps t bd).2 ∧ (renPs nms ps t.bs.length).2 = (binders ps t bd).1.bs.length := by
  unfold binders at he ⊢
  rw [hr.len]
  exact (ren_grp hF t.bs.length _).2 ps t t' bd (Nat.lt_succ_self _) (Nat.le_refl _) hr he
theorem rl_use (hF : Fit T nms D) {nm : Tx} {sp : Sp} {t t' : Tb} {bd : List Nat} (hr : Rl nms D t t') (hb : ∀ i ∈ bd, i < t.bs.length) (he : Ext (useT nm sp t bd) T) : Rl nms D (useT nm sp t bd) (useT (useNm T.us nms t.us.length nm) sp t' bd) := by
  obtain ⟨x, hx⟩ := he.us
  obtain ⟨y, hy⟩ := he.bs
  have hy : T.bs = t.bs ++ y := hy
  have he0 : Ext t T := Ext.trans ⟨⟨[], by simp [useT]⟩, ⟨_, rfl⟩, ⟨[], by simp [useT]⟩⟩ he
  have hT : T.us[t.us.length]? = some (nm, sp, means t.bs nm bd) := by
    rw [hx]
    show ((t.us ++ [(nm, sp, means t.bs nm bd)]) ++ x)[t.us.length]? = _
    rw [List.append_assoc, List.getElem?_append_right (Nat.le_refl _), Nat.sub_self]
    rfl
  have hmem : (nm, sp, means t.bs nm bd) ∈ T.us := List.mem_of_getElem? hT
  have hm : means t'.bs (useNm T.us nms t.us.length nm) bd = means t.bs nm bd := by
    unfold useNm
    rw [hT]
    dsimp only
    -- the whole of the new names
    have hfull : ∀ i, i < T.bs.length → ∃ s, (nms.map fun n => (n, ((0 : Int), (0 : Int))))[i]? = some (nms.getD i [], s) := fun i hi => by
      have hi' : i < nms.length := by rw [hF.len]; exact hi
      refine ⟨(0, 0), ?_⟩
      rw [List.getElem?_map, List.getElem?_eq_getElem hi', List.getD_eq_getElem?_getD, List.getElem?_eq_getElem hi']
      rfl
    have hlt : ∀ i ∈ bd, i < T.bs.length := fun i hi => by
      have := hb i hi
      rw [hy, List.length_append]; omega
    have h1 := hF.use bd nm sp _ _ hlt hmem (means_ext he0 hb nm).symm hfull
    refine (means_bs fun i hi => ?_).trans h1
    unfold hasNm
    have hil := hb i hi
    rw [hr.bs i t.bs[i] (List.getElem?_eq_getElem hil)]
    obtain ⟨s, hs⟩ := hfull i (hlt i hi)
    rw [hs]
    rfl
  refine ⟨hr.len, hr.bs, ?_, hr.tw⟩
  show (t'.us ++ [(useNm T.us nms t.us.length nm, sp, means t'.bs (useNm T.us nms t.us.length nm) bd)]).map (·.2) = (t.us ++ [(nm, sp, means t.bs nm bd)]).map (·.2)
  rw [List.map_append, List.map_append, hr.us, hm]
  rfl
/-- What is bound lies in the table. -/
def In (t : Tb) (bd : List Nat) : Prop := ∀ i ∈ bd, i < t.bs.length
theorem In.ext {t u : Tb} {bd : List Nat} (h : In t bd) (e : Ext t u) : In u bd := fun i hi => by
  obtain ⟨x, hx⟩ := e.bs
  have := h i hi
  rw [hx, List.length_append]; omega
theorem in_bind (fr : Nat) (nm : Tx) (sp : Sp) (t : Tb) (bd : List Nat) (h : In t bd) : In (bindT fr nm sp t) (bd ++ [t.bs.length]) := fun i hi => by
  show i < (t.bs ++ [(nm, sp)]).length
  rw [List.length_append]
  rcases List.mem_append.1 hi with hi | hi
  · have := h i hi; omega
  · have : i = t.bs.length := by simpa using hi
    simp; omega
theorem in_binders {ps : List Pat} {t : Tb} {bd : List Nat} (h : In t bd) : In (binders ps t bd).1 (binders ps t bd).2 :=
  binders_inv (I := In) (fun nm sp u b _ hi => in_bind _ nm sp u b hi) h
theorem ext_expr (e : Exr) (t : Tb) (bd : List Nat) : Ext t (expr e t bd) := ((expr_inv (I := fun _ _ => True) (fun _ _ _ _ _ _ _ => trivial) (fun _ _ _ _ _ _ _ => trivial) (fun _ _ _ _ _ => trivial) _).1 e t bd (Nat.lt_succ_self _) trivial).2
theorem ext_exprs (l : List Exr) (t : Tb) (bd : List Nat) : Ext t (exprs l t bd) := ((expr_inv (I := fun _ _ => True) (fun _ _ _ _ _ _ _ => trivial) (fun _ _ _ _ _ _ _ => trivial) (fun _ _ _ _ _ => trivial) _).2.1 l t bd (Nat.lt_succ_self _) trivial).2
theorem ext_arms (l : List Exr) (ps : List Pat) (t : Tb) (bd : List Nat) : Ext t (armsA l ps t bd) := ((expr_inv (I := fun _ _ => True) (fun _ _ _ _ _ _ _ => trivial) (fun _ _ _ _ _ _ _ => trivial) (fun _ _ _ _ _ => trivial) _).2.2 l ps t bd (Nat.lt_succ_self _) trivial).2
theorem ext_alls : ∀ (ps : List Pat) (t : Tb) (bd : List Nat), Ext t (alls ps t bd)
  | [], t, bd => Ext.refl t
  | p :: ps, t, bd => by simp only [alls]; exact (binders_ext [p] t bd).trans (ext_alls ps _ bd)
theorem ren_alls (hF : Fit T nms D) : ∀ (ps : List Pat) (t t' : Tb) (bd : List Nat), Rl nms D t t' → Ext (alls ps t bd) T → Rl nms D (alls ps t bd) (alls (renAll nms ps t.bs.length).1 t' bd) ∧ (renAll nms ps t.bs.length).2 = (alls ps t bd).bs.length
  | [], t, t', bd, hr, _ => by simp only [alls, renAll]; exact ⟨hr, trivial⟩
  | p :: ps, t, t', bd, hr, he => by
    simp only [alls, renAll] at he ⊢
    obtain ⟨k1, k2, k3⟩ := ren_binders hF (bd := bd) hr ((ext_alls ps _ bd).trans he)
    obtain ⟨j1, j2⟩ := ren_alls hF ps _ _ bd k1 he
    have hone : renPs nms [p] t.bs.length = ([(renP nms p t.bs.length).1], (renP nms p t.bs.length).2) := by simp [renPs]
    rw [hone] at k1 k3 j1 ⊢
    dsimp only at k1 k3 j1 ⊢
    rw [k3]
    exact ⟨j1, j2⟩
theorem two_ren (hF : Fit T nms D) {rc : Bool} {ps : List Pat} {t t' : Tb} {bd : List Nat} (hr : Rl nms D t t') (he : Ext (two rc ps t bd).1 T) :
    Rl nms D (two rc ps t bd).1 (two rc (renPs nms ps t.bs.length).1 t' bd).1 ∧ (two rc (renPs nms ps t.bs.length).1 t' bd).2 = (two rc ps t bd).2 ∧ (renPs nms ps t.bs.length).2 = (two rc ps t bd).1.bs.length := by
  have hsp : ps.take 1 ++ ps.drop 1 = ps := List.take_append_drop 1 ps
  have hpl := renPs_len nms (ps.take 1) t.bs.length
  have htk : (renPs nms ps t.bs.length).1.take 1 = (renPs nms (ps.take 1) t.bs.length).1 ∧ (renPs nms ps t.bs.length).1.drop 1 = (renPs nms (ps.drop 1) (renPs nms (ps.take 1) t.bs.length).2).1 ∧ (renPs nms ps t.bs.length).2 = (renPs nms (ps.drop 1) (renPs nms (ps.take 1) t.bs.length).2).2 := by
    have hap := renPs_app nms (ps.take 1) (ps.drop 1) t.bs.length
    rw [hsp] at hap
    rw [hap]
    cases ps with
    | nil => simp [renPs]
    | cons p ps => simp [renPs]
  unfold two at he ⊢
  dsimp only at he ⊢
  rw [htk.1, htk.2.1, htk.2.2]
  have e2 := binders_ext (ps.drop 1) (binders (ps.take 1) t bd).1 (if rc = true then (binders (ps.take 1) t bd).2 else bd)
  obtain ⟨k1, k2, k3⟩ := ren_binders hF (bd := bd) hr (e2.trans he)
  rw [k2, k3]
  obtain ⟨j1, j2, j3⟩ := ren_binders hF (bd := if rc = true then (binders (ps.take 1) t bd).2 else bd) k1 he
  exact ⟨j1, by rw [j2], j3⟩
theorem ren_expr (hF : Fit T nms D) : ∀ (n : Nat),
    (∀ (e : Exr) t t' bd, SizeOf.sizeOf e < n → In t bd → Rl nms D t t' → Ext (expr e t bd) T →
      Rl nms D (expr e t bd) (expr (renE T.us nms e t.bs.length t.us.length).1 t' bd) ∧ (renE T.us nms e t.bs.length t.us.length).2 = ((expr e t bd).bs.length, (expr e t bd).us.length)) ∧
    (∀ (l : List Exr) t t' bd, SizeOf.sizeOf l < n → In t bd → Rl nms D t t' → Ext (exprs l t bd) T →
      Rl nms D (exprs l t bd) (exprs (renEs T.us nms l t.bs.length t.us.length).1 t' bd) ∧ (renEs T.us nms l t.bs.length t.us.length).2 = ((exprs l t bd).bs.length, (exprs l t bd).us.length)) ∧
    (∀ (l : List Exr) ps t t' bd, SizeOf.sizeOf l < n → In t bd → Rl nms D t t' → Ext (armsA l ps t bd) T →
      Rl nms D (armsA l ps t bd) (armsA (renArms T.us nms l ps t.bs.length t.us.length).2.1 (renArms T.us nms l ps t.bs.length t.us.length).1 t' bd) ∧ (renArms T.us nms l ps t.bs.length t.us.length).2.2 = ((armsA l ps t bd).bs.length, (armsA l ps t bd).us.length)) := by
  intro n
  induction n with
  | zero => exact ⟨fun _ _ _ _ h => by omega, fun _ _ _ _ h => by omega, fun _ _ _ _ _ h => by omega⟩
  | succ n ih =>
    have bus : ∀ (ps : List Pat) (t : Tb) bd, (binders ps t bd).1.us = t.us := fun ps t bd => binders_inv (I := fun u _ => u.us = t.us) (fun nm sp u b _ hi => hi) rfl
    have aus : ∀ (ps : List Pat) (t : Tb) bd, (alls ps t bd).us = t.us := by
      intro ps
      induction ps with
      | nil => intro t bd; rfl
      | cons p ps ih => intro t bd; simp only [alls]; rw [ih, bus]
    refine ⟨?_, ?_, ?_⟩
    · intro e t t' bd h hi hr he
      cases e with
      | mk k sp rc nm ps ls =>
        simp only [Exr.mk.sizeOf_spec] at h
        by_cases h11 : k = 11
        · subst h11
          simp only [expr, renE, if_pos, if_neg (show ¬ (11 : Nat) = 13 by decide), true_or] at he ⊢
          obtain ⟨k1, k2, k3⟩ := ren_binders hF (bd := bd) hr ((ext_exprs ls _ _).trans he)
          obtain ⟨j1, j2⟩ := ih.2.1 ls _ _ _ (by omega) (in_binders hi) k1 he
          rw [bus] at j1 j2
          rw [k3, k2]
          exact ⟨j1, j2⟩
        by_cases h14 : k = 14
        · subst h14
          simp only [expr, renE, if_neg (show ¬ (14 : Nat) = 11 by decide), if_neg (show ¬ (14 : Nat) = 13 by decide), if_pos, or_true] at he ⊢
          have tus : (two rc ps t bd).1.us = t.us := by
            unfold two
            dsimp only
            rw [bus, bus]
          have ht : Ext (two rc ps t bd).1 T := by
            cases ls with
            | nil => simp only [letA] at he; exact he
            | cons a r => simp only [letA] at he; exact ((ext_expr a _ _).trans (ext_exprs r _ _)).trans he
          obtain ⟨k1, k2, k3⟩ := two_ren hF hr ht
          have hi3 := two_inv (I := In) (rc := rc) (ps := ps) (fun fr nm sp u b _ hb => in_bind fr nm sp u b hb) (fun u v b c e hb _ => hb.ext e) (fun ps u b _ => binders_ext ps u b) hi
          rw [k3, k2]
          cases ls with
          | nil => simp only [letA, renEs]; exact ⟨k1, by rw [tus]⟩
          | cons a r =>
            simp only [List.cons.sizeOf_spec] at h
            simp only [letA, renEs] at he ⊢
            obtain ⟨j1, j2⟩ := ih.1 a _ _ (two rc ps t bd).2.2 (by omega) hi3.2.1 k1 ((ext_exprs r _ _).trans he)
            rw [tus] at j1 j2
            obtain ⟨i1, i2⟩ := ih.2.1 r _ _ (two rc ps t bd).2.1 (by omega) (hi3.1.ext (ext_expr a _ _)) j1 he
            rw [j2]
            exact ⟨i1, i2⟩
        by_cases h13 : k = 13
        · subst h13
          simp only [expr, renE, if_neg (show ¬ (13 : Nat) = 11 by decide), if_neg (show ¬ (13 : Nat) = 14 by decide), if_pos] at he ⊢
          cases ls with
          | nil =>
            simp only [matchA, renM] at he ⊢
            obtain ⟨k1, k2⟩ := ren_alls hF ps t t' bd hr he
            exact ⟨k1, by rw [k2, aus]⟩
          | cons a r =>
            simp only [List.cons.sizeOf_spec] at h
            simp only [matchA, renM] at he ⊢
            obtain ⟨j1, j2⟩ := ih.1 a _ _ bd (by omega) hi hr ((ext_arms r ps _ _).trans he)
            obtain ⟨i1, i2⟩ := ih.2.2 r ps _ _ bd (by omega) (hi.ext (ext_expr a _ _)) j1 he
            rw [j2]
            exact ⟨i1, i2⟩
        · have hor : ¬ (k = 11 ∨ k = 14) := by rintro (hq | hq); exact h11 hq; exact h14 hq
          simp only [expr, renE, if_neg h11, if_neg h14, if_neg h13, if_neg hor] at he ⊢
          by_cases h1 : k = 1
          · subst h1
            simp only [if_pos, expr, if_neg (show ¬ (1 : Nat) = 11 by decide), if_neg (show ¬ (1 : Nat) = 13 by decide), if_neg (show ¬ (1 : Nat) = 14 by decide)] at he ⊢
            have hu := rl_use hF hr hi ((ext_exprs ls _ _).trans he)
            obtain ⟨j1, j2⟩ := ih.2.1 ls _ _ bd (by omega) (show In (useT nm sp t bd) bd from hi) hu he
            have ul : (useT nm sp t bd).us.length = t.us.length + 1 := by simp [useT]
            rw [ul] at j1 j2
            exact ⟨j1, j2⟩
          · simp only [if_neg h1, expr, if_neg h11, if_neg h14, if_neg h13] at he ⊢
            exact ih.2.1 ls _ _ bd (by omega) hi hr he
    · intro l t t' bd h hi hr he
      cases l with
      | nil => simp only [exprs, renEs]; exact ⟨hr, trivial⟩
      | cons a r =>
        simp only [List.cons.sizeOf_spec] at h
        simp only [exprs, renEs] at he ⊢
        obtain ⟨j1, j2⟩ := ih.1 a _ _ bd (by omega) hi hr ((ext_exprs r _ _).trans he)
        obtain ⟨i1, i2⟩ := ih.2.1 r _ _ bd (by omega) (hi.ext (ext_expr a _ _)) j1 he
        rw [j2]
        exact ⟨i1, i2⟩
    · intro l ps t t' bd h hi hr he
      cases l with
      | nil =>
        simp only [armsA, renArms] at he ⊢
        obtain ⟨k1, k2⟩ := ren_alls hF ps t t' bd hr he
        exact ⟨k1, by rw [k2, aus]⟩
      | cons a r =>
        simp only [List.cons.sizeOf_spec] at h
        cases ps with
        | nil =>
          simp only [armsA, renArms] at he ⊢
          obtain ⟨j1, j2⟩ := ih.1 a _ _ bd (by omega) hi hr ((ext_arms r [] _ _).trans he)
          obtain ⟨i1, i2⟩ := ih.2.2 r [] _ _ bd (by omega) (hi.ext (ext_expr a _ _)) j1 he
          have hnil : ∀ (l : List Exr) b u, (renArms T.us nms l [] b u).1 = [] := by
            intro l
            induction l with
            | nil => intro b u; simp [renArms, renAll]
            | cons a l ih => intro b u; simp only [renArms]; exact ih _ _
          rw [j2]
          rw [hnil] at i1 ⊢
          simp only [armsA]
          exact ⟨i1, i2⟩
        | cons p ps =>
          have hone : (renPs nms [p] t.bs.length) = ([(renP nms p t.bs.length).1], (renP nms p t.bs.length).2) := by simp [renPs]
          simp only [armsA, renArms] at he ⊢
          obtain ⟨k1, k2, k3⟩ := ren_binders hF (bd := bd) hr (((ext_expr a _ _).trans (ext_arms r ps _ _)).trans he)
          obtain ⟨j1, j2⟩ := ih.1 a _ _ _ (by omega) (in_binders hi) k1 ((ext_arms r ps _ _).trans he)
          obtain ⟨i1, i2⟩ := ih.2.2 r ps _ _ bd (by omega) (hi.ext ((binders_ext [p] t bd).trans (ext_expr a _ _))) j1 he
          rw [bus] at j1 j2 i1
          rw [k3, j2]
          rw [hone] at k2 i1 ⊢
          simp only [List.cons_append, List.nil_append, armsA]
          rw [k2]
          exact ⟨i1, i2⟩
end
end Go.Scope
/- Other names: no meaning changes. -/
namespace Go.Scope

theorem ext_decls (l : List Bd) (t : Tb) (row : List Nat) : Ext t (decls l t row) :=
  (decls_inv (I := fun _ _ => True) (fun _ _ _ _ _ _ _ => trivial) (fun _ _ _ _ _ _ _ => trivial) (fun _ _ _ _ _ => trivial) l t row trivial).2
theorem us_binders (ps : List Pat) (t : Tb) (bd : List Nat) : (binders ps t bd).1.us = t.us := binders_inv (I := fun u _ => u.us = t.us) (fun _ _ _ _ _ hi => hi) rfl
theorem us_two (rc : Bool) (ps : List Pat) (t : Tb) (bd : List Nat) : (two rc ps t bd).1.us = t.us := by
  unfold two
  dsimp only
  rw [us_binders, us_binders]
theorem ren_decls {T : Tb} {nms : List Tx} {D : Prop} (hF : Fit T nms D) : ∀ (l : List Bd) (t t' : Tb) (row : List Nat), In t row → Rl nms D t t' → Ext (decls l t row) T → Rl nms D (decls l t row) (decls (renD T.us nms l t.bs.length t.us.length) t' row)
  | [], t, t', row, _, hr, _ => by simp only [decls, renD]; exact hr
  | d :: l, t, t', row, hi, hr, he => by
    simp only [decls, renD] at he ⊢
    obtain ⟨k1, k2, k3⟩ := two_ren hF (rc := d.rc) (ps := d.ps) hr (((ext_expr d.body _ _).trans (ext_decls l _ _)).trans he)
    have hi3 := two_inv (I := In) (rc := d.rc) (ps := d.ps) (fun fr nm sp u b _ hb => in_bind fr nm sp u b hb) (fun u v b c e hb _ => hb.ext e) (fun ps u b _ => binders_ext ps u b) hi
    obtain ⟨j1, j2⟩ := (ren_expr hF _).1 d.body _ _ (two d.rc d.ps t row).2.2 (Nat.lt_succ_self _) hi3.2.1 k1 ((ext_decls l _ _).trans he)
    rw [us_two] at j1 j2
    rw [k3, k2, j2]
    exact ren_decls hF l _ _ _ (hi3.1.ext (ext_expr d.body _ _)) j1 he
theorem ren_of {l : List Bd} {nms : List Tx} {D : Prop} (hF : Fit (ofS l) nms D) : Rl nms D (ofS l) (ofS (renD (ofS l).us nms l 0 0)) :=
  ren_decls hF l Tb.none Tb.none [] (fun _ h => by cases h) ⟨rfl, fun i b h => by simp [Tb.none] at h, rfl, fun _ => rfl⟩ (Ext.refl _)

/-! Names that stand nowhere. -/
def digs (n : Nat) : Tx := if h : n < 10 then [48 + UInt8.ofNat n] else digs (n / 10) ++ [48 + UInt8.ofNat (n % 10)]
termination_by n
decreasing_by omega
def fresh (long n : Nat) : Tx := List.replicate (long + 1) 122 ++ digs n
def valD (l : Tx) : Nat := l.foldl (fun a c => a * 10 + (c.toNat - 48)) 0
theorem dig_val {m : Nat} (h : m < 10) : (48 + UInt8.ofNat m).toNat - 48 = m := by
  have : ∀ m < 10, (48 + UInt8.ofNat m).toNat - 48 = m := by decide
  exact this m h
theorem val_digs (n : Nat) : valD (digs n) = n := by
  induction n using Nat.strongRecOn with
  | _ n ih =>
    rw [digs]
    split
    · rename_i h
      show 0 * 10 + ((48 + UInt8.ofNat n).toNat - 48) = n
      rw [dig_val h]; omega
    · have h1 := ih (n / 10) (by omega)
      unfold valD at h1 ⊢
      rw [List.foldl_append, h1]
      show n / 10 * 10 + ((48 + UInt8.ofNat (n % 10)).toNat - 48) = n
      rw [dig_val (Nat.mod_lt _ (by decide))]
      omega
theorem fresh_inj {long i j : Nat} (h : fresh long i = fresh long j) : i = j := by
  have := List.append_cancel_left h
  rw [← val_digs i, ← val_digs j, this]
theorem fresh_len (long i : Nat) : long < (fresh long i).length := by
  unfold fresh
  rw [List.length_append, List.length_replicate]
  omega
def allFresh (long n : Nat) : List Tx := (List.range n).map (fresh long)
theorem allFresh_getD {long n i : Nat} (h : i < n) : (allFresh long n).getD i [] = fresh long i := by
  unfold allFresh
  rw [List.getD_eq_getElem?_getD, List.getElem?_map, List.getElem?_range h]
  rfl
theorem hasNm_of {bs : List (Tx × Sp)} {nm n : Tx} {i : Nat} {s : Sp} (h : bs[i]? = some (n, s)) : hasNm bs nm i = (n == nm) := by
  unfold hasNm
  rw [h]
  show (some n == some nm) = _
  rw [Option.some_beq_some]
theorem find_less {α : Type} {p q : α → Bool} {k : α} : ∀ {l : List α}, (∀ i ∈ l, q i = true → p i = true) → q k = true → l.find? p = some k → l.find? q = some k
  | [], _, _, h => by simp at h
  | a :: l, hl, hk, h => by
    rw [List.find?_cons] at h ⊢
    cases hp : p a with
    | true =>
      rw [hp] at h
      simp only [Option.some.injEq] at h
      rw [h, hk]
    | false =>
      rw [hp] at h
      have : q a = false := by
        cases hq : q a with
        | false => rfl
        | true => rw [hl a List.mem_cons_self hq] at hp; cases hp
      rw [this]
      exact find_less (fun i hi => hl i (List.mem_cons_of_mem _ hi)) hk h
/-- Is a name no longer than that? -/
structure Long (T : Tb) (long : Nat) : Prop where
  bs : ∀ b ∈ T.bs, b.1.length ≤ long
  us : ∀ u ∈ T.us, u.1.length ≤ long
theorem means_some {bs : List (Tx × Sp)} {nm : Tx} {bd : List Nat} {k : Int} (h : means bs nm bd = k) (h0 : 0 ≤ k) : seek bs nm bd = some k.toNat := by
  unfold means at h
  cases hs : seek bs nm bd with
  | some i => rw [hs] at h; rw [← h]; rfl
  | none => rw [hs] at h; dsimp only at h; split at h <;> omega
theorem means_none {bs : List (Tx × Sp)} {nm : Tx} {bd : List Nat} (h : seek bs nm bd = none) : means bs nm bd = if given nm = true then -2 else -1 := by unfold means; rw [h]
theorem means_neg {bs : List (Tx × Sp)} {nm : Tx} {bd : List Nat} {k : Int} (h : means bs nm bd = k) (h0 : k < 0) : seek bs nm bd = none := by
  unfold means at h
  cases hs : seek bs nm bd with
  | none => rfl
  | some i => rw [hs] at h; dsimp only at h; omega
/-- All names fresh. -/
theorem fit_all {T : Tb} {row : List Nat} (_hG : Good T row) {long : Nat} (hL : Long T long) : Fit T (allFresh long T.bs.length) True := by
  have hlen : (allFresh long T.bs.length).length = T.bs.length := by simp [allFresh]
  refine ⟨hlen, fun bd nm sp k bs hbd hmem hm hbs => ?_, fun _ i j hij hj h => ?_⟩
  · rw [hlen]
    by_cases h0 : 0 ≤ k
    · have hs := means_some hm h0
      obtain ⟨hi, s, hsb⟩ := seek_some hs
      have hlt := hbd _ hi
      rw [if_pos ⟨h0, by omega⟩]
      have hfind : seek bs ((allFresh long T.bs.length).getD k.toNat []) bd = some k.toNat := by
        unfold seek at hs ⊢
        have hone : ∀ i ∈ bd.reverse, hasNm bs ((allFresh long T.bs.length).getD k.toNat []) i = true → hasNm T.bs nm i = true := fun i hi hq => by
          have hil := hbd i (by simpa using hi)
          obtain ⟨s', hs'⟩ := hbs i hil
          rw [hasNm_of hs', allFresh_getD hil, allFresh_getD hlt] at hq
          have := fresh_inj (by simpa using hq)
          subst this
          rw [hasNm_of hsb]; simp
        refine find_less hone ?_ hs
        obtain ⟨s', hs'⟩ := hbs _ hlt
        rw [hasNm_of hs']
        simp
      unfold means
      rw [hfind]
      show ((k.toNat : Nat) : Int) = k
      omega
    · rw [if_neg (by omega)]
      have hs : seek bs nm bd = none := by
        unfold seek
        rw [List.find?_eq_none]
        intro i hi
        have hil := hbd i (by simpa using hi)
        obtain ⟨s', hs'⟩ := hbs i hil
        rw [hasNm_of hs', allFresh_getD hil]
        intro hq
        have h1 : fresh long i = nm := by simpa using hq
        have h2 := fresh_len long i
        have h3 := hL.us _ hmem
        dsimp only at h3
        rw [h1] at h2
        omega
      rw [means_none hs, ← hm, means_none (means_neg hm (by omega))]
  · rw [allFresh_getD (by omega), allFresh_getD hj] at h
    exact absurd (fresh_inj h) (by omega)
/-- One name fresh. -/
def oneFresh (long : Nat) (bs : List (Tx × Sp)) (k : Nat) : List Tx := (List.range bs.length).map fun i => if i = k then fresh long i else (bs[i]?.map (·.1)).getD []
theorem oneFresh_getD {long k i : Nat} {bs : List (Tx × Sp)} {b : Tx × Sp} (h : bs[i]? = some b) : (oneFresh long bs k).getD i [] = if i = k then fresh long i else b.1 := by
  unfold oneFresh
  rw [List.getD_eq_getElem?_getD, List.getElem?_map, List.getElem?_range (List.getElem?_eq_some_iff.1 h).1]
  show (some _).getD [] = _
  rw [Option.getD_some]
  dsimp only
  rw [h]
  rfl
theorem fit_one {T : Tb} {row : List Nat} (_hG : Good T row) {long : Nat} (hL : Long T long) {k0 : Nat} (hk : ∀ u ∈ T.us, u.2.2 ≠ (k0 : Int)) : Fit T (oneFresh long T.bs k0) False := by
  have hlen : (oneFresh long T.bs k0).length = T.bs.length := by simp [oneFresh]
  refine ⟨hlen, fun bd nm sp k bs hbd hmem hm hbs => ?_, fun h => h.elim⟩
  rw [hlen]
  have hnl := hL.us _ hmem
  dsimp only at hnl
  have hne := hk _ hmem
  dsimp only at hne
  have hless : ∀ i ∈ bd.reverse, hasNm bs nm i = true → hasNm T.bs nm i = true := fun i hi hq => by
    have hil := hbd i (by simpa using hi)
    obtain ⟨s', hs'⟩ := hbs i hil
    have hb := List.getElem?_eq_getElem hil
    rw [hasNm_of hs', oneFresh_getD hb] at hq
    rw [hasNm_of (n := T.bs[i].1) (s := T.bs[i].2) hb]
    split at hq
    · have h1 : fresh long i = nm := by simpa using hq
      have h2 := fresh_len long i
      rw [h1] at h2
      omega
    · exact hq
  by_cases h0 : 0 ≤ k
  · have hs := means_some hm h0
    obtain ⟨hi, s, hsb⟩ := seek_some hs
    have hlt := hbd _ hi
    have hkk : k.toNat ≠ k0 := by omega
    have hg : (oneFresh long T.bs k0).getD k.toNat [] = nm := by rw [oneFresh_getD hsb, if_neg hkk]
    rw [if_pos ⟨h0, by omega⟩, hg]
    have hfind : seek bs nm bd = some k.toNat := by
      unfold seek at hs ⊢
      refine find_less hless ?_ hs
      obtain ⟨s', hs'⟩ := hbs _ hlt
      rw [hasNm_of hs', hg]
      simp
    unfold means
    rw [hfind]
    show ((k.toNat : Nat) : Int) = k
    omega
  · rw [if_neg (by omega)]
    have hs : seek bs nm bd = none := by
      have h1 := means_neg hm (by omega)
      unfold seek at h1 ⊢
      rw [List.find?_eq_none] at h1 ⊢
      intro i hi hq
      exact h1 i hi (hless i hi hq)
    rw [means_none hs, ← hm, means_none (means_neg hm (by omega))]
end Go.Scope
/- A group's names, as a table of names; what they mean. -/
namespace Go.Scope

def findM (nm : Tx) : List (Tx × Nat) → Option Nat
  | [] => none
  | (a, i) :: l => if (nm == a) = true then some i else findM nm l
def setM (nm : Tx) (k : Nat) : List (Tx × Nat) → List (Tx × Nat)
  | [] => [(nm, k)]
  | (a, i) :: l => if (nm == a) = true then (a, k) :: l else (a, i) :: setM nm k l
theorem find_set (nm : Tx) (k : Nat) (n : Tx) : ∀ (l : List (Tx × Nat)), findM n (setM nm k l) = if n = nm then some k else findM n l
  | [] => by
    simp only [setM, findM]
    by_cases h : n = nm
    · simp [h]
    · simp [h]
  | (a, i) :: l => by
    simp only [setM]
    by_cases h : nm = a
    · subst h
      rw [if_pos (by simp)]
      simp only [findM]
      by_cases h2 : n = nm
      · simp [h2]
      · simp [h2]
    · rw [if_neg (by simpa using h)]
      simp only [findM]
      by_cases h2 : n = a
      · subst h2
        rw [if_pos (by simp), if_neg (fun e => h e.symm), if_pos (by simp)]
      · rw [if_neg (by simpa using h2), find_set nm k n l, if_neg (show ¬ (n == a) = true by simpa using h2)]
/-- A group's names. -/
def MapOk (l : List (Tx × Nat)) (bs : List (Tx × Sp)) (g : List Nat) : Prop := ∀ nm, findM nm l = seek bs nm g
theorem mapOk_nil (bs : List (Tx × Sp)) : MapOk [] bs [] := fun _ => rfl
theorem seek_app (bs : List (Tx × Sp)) (nm : Tx) (g h : List Nat) : seek bs nm (g ++ h) = (seek bs nm h).or (seek bs nm g) := by
  unfold seek
  rw [List.reverse_append, List.find?_append]
theorem seek_ext {bs : List (Tx × Sp)} (x : List (Tx × Sp)) {nm : Tx} {g : List Nat} (h : ∀ i ∈ g, i < bs.length) : seek (bs ++ x) nm g = seek bs nm g :=
  seek_bs fun i hi => by
    unfold hasNm
    rw [List.getElem?_append_left (h i hi)]
theorem seek_one (bs : List (Tx × Sp)) (nm n : Tx) (sp : Sp) : seek (bs ++ [(nm, sp)]) n [bs.length] = if n = nm then some bs.length else none := by
  unfold seek
  rw [List.reverse_singleton, List.find?_cons, hasNm_of (n := nm) (s := sp) (by simp)]
  by_cases h : n = nm
  · rw [if_pos h, h]; simp
  · rw [if_neg h, beq_eq_false_iff_ne.2 (fun e => h e.symm)]; rfl
theorem mapOk_set {l : List (Tx × Nat)} {bs : List (Tx × Sp)} {g : List Nat} (h : MapOk l bs g) (hg : ∀ i ∈ g, i < bs.length) (nm : Tx) (sp : Sp) : MapOk (setM nm bs.length l) (bs ++ [(nm, sp)]) (g ++ [bs.length]) := fun n => by
  rw [find_set, seek_app, seek_one, seek_ext _ hg, h n]
  split <;> rfl
/-- A group's binders. -/
def gr (fr n : Nat) : List Nat := List.range' fr (n - fr)
theorem gr_lt {fr n i : Nat} (h : i ∈ gr fr n) : i < n := by
  unfold gr at h
  rw [List.mem_range'_1] at h
  omega
theorem gr_nil (fr : Nat) : gr fr fr = [] := by unfold gr; simp
theorem gr_succ {fr n : Nat} (h : fr ≤ n) : gr fr (n + 1) = gr fr n ++ [n] := by
  unfold gr
  rw [show n + 1 - fr = (n - fr) + 1 by omega, List.range'_concat]
  simp; omega
theorem any_gr (bs : List (Tx × Sp)) (nm : Tx) : ∀ (k fr : Nat), fr + k = bs.length → (List.range' fr k).any (hasNm bs nm) = (bs.drop fr).any fun b => b.1 == nm
  | 0, fr, h => by rw [List.drop_eq_nil_of_le (by omega)]; rfl
  | k + 1, fr, h => by
    have hlt : fr < bs.length := by omega
    rw [List.range'_succ, List.any_cons, any_gr bs nm k (fr + 1) (by omega), List.drop_eq_getElem_cons hlt, List.any_cons, hasNm_of (n := bs[fr].1) (s := bs[fr].2) (List.getElem?_eq_getElem hlt)]
theorem seek_gr (bs : List (Tx × Sp)) (nm : Tx) {fr : Nat} (h : fr ≤ bs.length) : (seek bs nm (gr fr bs.length)).isSome = (bs.drop fr).any fun b => b.1 == nm := by
  unfold seek gr
  rw [← any_gr bs nm (bs.length - fr) fr (by omega), Bool.eq_iff_iff, List.find?_isSome]
  simp
/-! What is bound does not tell on the table. -/
theorem grps_tab (fr : Nat) : ∀ (n : Nat), (∀ (p : Pat) t b c, SizeOf.sizeOf p < n → (grp fr p t b).1 = (grp fr p t c).1) ∧ (∀ (ps : List Pat) t b c, SizeOf.sizeOf ps < n → (grps fr ps t b).1 = (grps fr ps t c).1) := by
  intro n
  induction n with
  | zero => exact ⟨fun _ _ _ _ h => by omega, fun _ _ _ _ h => by omega⟩
  | succ n ih =>
    constructor
    · intro p t b c h
      cases p with
      | mk k lit sp nm ps =>
        simp only [Pat.mk.sizeOf_spec] at h
        simp only [grp]
        split
        · exact ih.2 _ _ _ _ (by omega)
        · exact ih.2 _ _ _ _ (by omega)
    · intro ps t b c h
      cases ps with
      | nil => rfl
      | cons p ps =>
        simp only [List.cons.sizeOf_spec] at h
        simp only [grps]
        rw [ih.1 p t b c (by omega)]
        exact ih.2 _ _ _ _ (by omega)
theorem binders_tab (ps : List Pat) (t : Tb) (b c : List Nat) : (binders ps t b).1 = (binders ps t c).1 := (grps_tab _ _).2 ps t b c (Nat.lt_succ_self _)
theorem gr_bind {fr : Nat} {bd0 : List Nat} (nm : Tx) (sp : Sp) (u : Tb) (b : List Nat) (hf : fr ≤ u.bs.length) (h : b = bd0 ++ gr fr u.bs.length) : b ++ [u.bs.length] = bd0 ++ gr fr (bindT fr nm sp u).bs.length := by
  have : (bindT fr nm sp u).bs.length = u.bs.length + 1 := by simp [bindT]
  rw [this, gr_succ hf, h, List.append_assoc]
theorem binders_gr (ps : List Pat) (t : Tb) (bd : List Nat) : (binders ps t bd).2 = bd ++ gr t.bs.length (binders ps t bd).1.bs.length :=
  binders_inv (I := fun u b => b = bd ++ gr t.bs.length u.bs.length) (fun nm sp u b hf hb => gr_bind nm sp u b hf hb) (by rw [gr_nil, List.append_nil])
end Go.Scope
/- How many binders and uses there are at most. -/
namespace Go.Scope

mutual
def nP : Pat → Nat
  | .mk _ _ _ _ ps => 1 + nPs ps
def nPs : List Pat → Nat
  | [] => 0
  | p :: ps => nP p + nPs ps
end
mutual
def nE : Exr → Nat
  | .mk _ _ _ _ ps ls => 1 + nPs ps + nEs ls
def nEs : List Exr → Nat
  | [] => 0
  | e :: l => nE e + nEs l
end
def nDs : List Bd → Nat
  | [] => 0
  | d :: l => nPs d.ps + nE d.body + nDs l
/-- How much a table holds. -/
def wt (t : Tb) : Nat := t.bs.length + t.us.length + t.tw.length
theorem wt_bind (fr : Nat) (nm : Tx) (sp : Sp) (t : Tb) : wt (bindT fr nm sp t) ≤ wt t + 2 := by
  unfold wt bindT
  dsimp only
  split <;> simp <;> omega
theorem wt_grp (fr : Nat) : ∀ (n : Nat), (∀ (p : Pat) t b, SizeOf.sizeOf p < n → wt (grp fr p t b).1 ≤ wt t + 2 * nP p) ∧ (∀ (ps : List Pat) t b, SizeOf.sizeOf ps < n → wt (grps fr ps t b).1 ≤ wt t + 2 * nPs ps) := by
  intro n
  induction n with
  | zero => exact ⟨fun _ _ _ h => by omega, fun _ _ _ h => by omega⟩
  | succ n ih =>
    constructor
    · intro p t b h
      cases p with
      | mk k lit sp nm ps =>
        simp only [Pat.mk.sizeOf_spec] at h
        simp only [grp, nP]
        split
        · have h1 := ih.2 ps (bindT fr nm sp t) (b ++ [t.bs.length]) (by omega)
          have h2 := wt_bind fr nm sp t
          omega
        · have h1 := ih.2 ps t b (by omega)
          omega
    · intro ps t b h
      cases ps with
      | nil => simp only [grps, nPs]; omega
      | cons p ps =>
        simp only [List.cons.sizeOf_spec] at h
        simp only [grps, nPs]
        have h1 := ih.1 p t b (by omega)
        have h2 := ih.2 ps (grp fr p t b).1 (grp fr p t b).2 (by omega)
        omega
theorem wt_binders (ps : List Pat) (t : Tb) (b : List Nat) : wt (binders ps t b).1 ≤ wt t + 2 * nPs ps := (wt_grp _ _).2 ps t b (Nat.lt_succ_self _)
theorem nPs_app : ∀ (l m : List Pat), nPs (l ++ m) = nPs l + nPs m
  | [], m => by simp [nPs]
  | p :: l, m => by simp only [List.cons_append, nPs, nPs_app l m]; omega
theorem wt_two (rc : Bool) (ps : List Pat) (t : Tb) (b : List Nat) : wt (two rc ps t b).1 ≤ wt t + 2 * nPs ps := by
  unfold two
  dsimp only
  have h1 := wt_binders (ps.take 1) t b
  have h2 := wt_binders (ps.drop 1) (binders (ps.take 1) t b).1 (if rc = true then (binders (ps.take 1) t b).2 else b)
  have h3 := nPs_app (ps.take 1) (ps.drop 1)
  rw [List.take_append_drop] at h3
  omega
theorem wt_alls : ∀ (ps : List Pat) (t : Tb) (b : List Nat), wt (alls ps t b) ≤ wt t + 2 * nPs ps
  | [], t, b => by simp only [alls, nPs]; omega
  | p :: ps, t, b => by
    simp only [alls, nPs]
    have h1 := wt_binders [p] t b
    have h2 := wt_alls ps (binders [p] t b).1 b
    simp only [nPs] at h1
    omega
theorem wt_expr : ∀ (n : Nat), (∀ (e : Exr) t b, SizeOf.sizeOf e < n → wt (expr e t b) ≤ wt t + 2 * nE e) ∧ (∀ (l : List Exr) t b, SizeOf.sizeOf l < n → wt (exprs l t b) ≤ wt t + 2 * nEs l) ∧
    (∀ (l : List Exr) ps t b, SizeOf.sizeOf l < n → wt (armsA l ps t b) ≤ wt t + 2 * nPs ps + 2 * nEs l) := by
  intro n
  induction n with
  | zero => exact ⟨fun _ _ _ h => by omega, fun _ _ _ h => by omega, fun _ _ _ _ h => by omega⟩
  | succ n ih =>
    refine ⟨?_, ?_, ?_⟩
    · intro e t b h
      cases e with
      | mk k sp rc nm ps ls =>
        simp only [Exr.mk.sizeOf_spec] at h
        simp only [expr, nE]
        split
        · have h1 := wt_binders ps t b
          have h2 := ih.2.1 ls (binders ps t b).1 (binders ps t b).2 (by omega)
          omega
        split
        · have h1 := wt_two rc ps t b
          cases ls with
          | nil => simp only [letA, nEs]; omega
          | cons a r =>
            simp only [List.cons.sizeOf_spec] at h
            simp only [letA, nEs]
            have h2 := ih.1 a (two rc ps t b).1 (two rc ps t b).2.2 (by omega)
            have h3 := ih.2.1 r (expr a (two rc ps t b).1 (two rc ps t b).2.2) (two rc ps t b).2.1 (by omega)
            omega
        split
        · cases ls with
          | nil => simp only [matchA, nEs]; have := wt_alls ps t b; omega
          | cons a r =>
            simp only [List.cons.sizeOf_spec] at h
            simp only [matchA, nEs]
            have h2 := ih.1 a t b (by omega)
            have h3 := ih.2.2 r ps (expr a t b) b (by omega)
            omega
        · split
          · have h1 : wt (useT nm sp t b) = wt t + 1 := by simp only [wt, useT, List.length_append, List.length_cons, List.length_nil]; omega
            have h2 := ih.2.1 ls (useT nm sp t b) b (by omega)
            omega
          · have h2 := ih.2.1 ls t b (by omega)
            omega
    · intro l t b h
      cases l with
      | nil => simp only [exprs, nEs]; omega
      | cons a r =>
        simp only [List.cons.sizeOf_spec] at h
        simp only [exprs, nEs]
        have h2 := ih.1 a t b (by omega)
        have h3 := ih.2.1 r (expr a t b) b (by omega)
        omega
    · intro l ps t b h
      cases l with
      | nil => simp only [armsA, nEs]; have := wt_alls ps t b; omega
      | cons a r =>
        simp only [List.cons.sizeOf_spec] at h
        cases ps with
        | nil =>
          simp only [armsA, nEs, nPs]
          have h2 := ih.1 a t b (by omega)
          have h3 := ih.2.2 r [] (expr a t b) b (by omega)
          simp only [nPs] at h3
          omega
        | cons p ps =>
          simp only [armsA, nEs, nPs]
          have h1 := wt_binders [p] t b
          simp only [nPs] at h1
          have h2 := ih.1 a (binders [p] t b).1 (binders [p] t b).2 (by omega)
          have h3 := ih.2.2 r ps (expr a (binders [p] t b).1 (binders [p] t b).2) b (by omega)
          omega
theorem wt_decls : ∀ (l : List Bd) (t : Tb) (row : List Nat), wt (decls l t row) ≤ wt t + 2 * nDs l
  | [], t, row => by simp only [decls, nDs]; omega
  | d :: l, t, row => by
    simp only [decls, nDs]
    have h1 := wt_two d.rc d.ps t row
    have h2 := (wt_expr _).1 d.body (two d.rc d.ps t row).1 (two d.rc d.ps t row).2.2 (Nat.lt_succ_self _)
    have h3 := wt_decls l (expr d.body (two d.rc d.ps t row).1 (two d.rc d.ps t row).2.2) (two d.rc d.ps t row).2.1
    omega
theorem wt_of (l : List Bd) : wt (ofS l) ≤ 2 * nDs l := by
  have := wt_decls l Tb.none []
  have h : wt Tb.none = 0 := rfl
  unfold ofS
  omega
end Go.Scope
/- How much renaming counts; how many patterns there are. -/
namespace Go.Scope

theorem renPs_cnt (nms : List Tx) : ∀ (n : Nat), (∀ (p : Pat) b, SizeOf.sizeOf p < n → (renP nms p b).2 ≤ b + nP p) ∧ (∀ (ps : List Pat) b, SizeOf.sizeOf ps < n → (renPs nms ps b).2 ≤ b + nPs ps) := by
  intro n
  induction n with
  | zero => exact ⟨fun _ _ h => by omega, fun _ _ h => by omega⟩
  | succ n ih =>
    constructor
    · intro p b h
      cases p with
      | mk k lit sp nm ps =>
        simp only [Pat.mk.sizeOf_spec] at h
        simp only [renP, nP]
        split
        · have := ih.2 ps (b + 1) (by omega)
          show (renPs nms ps (b + 1)).2 ≤ _
          omega
        · have := ih.2 ps b (by omega)
          show (renPs nms ps b).2 ≤ _
          omega
    · intro ps b h
      cases ps with
      | nil => simp only [renPs, nPs]; omega
      | cons p ps =>
        simp only [List.cons.sizeOf_spec] at h
        simp only [renPs, nPs]
        have h1 := ih.1 p b (by omega)
        have h2 := ih.2 ps (renP nms p b).2 (by omega)
        omega
theorem cntPs (nms : List Tx) (ps : List Pat) (b : Nat) : (renPs nms ps b).2 ≤ b + nPs ps := (renPs_cnt nms _).2 ps b (Nat.lt_succ_self _)
theorem cntAll (nms : List Tx) : ∀ (ps : List Pat) (b : Nat), (renAll nms ps b).2 ≤ b + nPs ps
  | [], b => by simp only [renAll, nPs]; omega
  | p :: ps, b => by
    simp only [renAll, nPs]
    have h1 := cntPs nms [p] b
    have h2 := cntAll nms ps (renPs nms [p] b).2
    simp only [nPs] at h1
    omega
section
variable (us : List (Tx × Sp × Int)) (nms : List Tx)
theorem renE_cnt : ∀ (n : Nat), (∀ (e : Exr) b u, SizeOf.sizeOf e < n → (renE us nms e b u).2.1 ≤ b + nE e ∧ (renE us nms e b u).2.2 ≤ u + nE e) ∧ (∀ (l : List Exr) b u, SizeOf.sizeOf l < n → (renEs us nms l b u).2.1 ≤ b + nEs l ∧ (renEs us nms l b u).2.2 ≤ u + nEs l) ∧
    (∀ (l : List Exr) ps b u, SizeOf.sizeOf l < n → (renArms us nms l ps b u).2.2.1 ≤ b + nPs ps + nEs l ∧ (renArms us nms l ps b u).2.2.2 ≤ u + nPs ps + nEs l) := by
  intro n
  induction n with
  | zero => exact ⟨fun _ _ _ h => by omega, fun _ _ _ h => by omega, fun _ _ _ _ h => by omega⟩
  | succ n ih =>
    refine ⟨?_, ?_, ?_⟩
    · intro e b u h
      cases e with
      | mk k sp rc nm ps ls =>
        simp only [Exr.mk.sizeOf_spec] at h
        simp only [renE, nE]
        split
        · cases ls with
          | nil =>
            simp only [renM, nEs]
            have := cntAll nms ps b
            omega
          | cons a r =>
            simp only [List.cons.sizeOf_spec] at h
            simp only [renM, nEs]
            have h1 := ih.1 a b u (by omega)
            have h2 := ih.2.2 r ps (renE us nms a b u).2.1 (renE us nms a b u).2.2 (by omega)
            omega
        split
        · have h1 := cntPs nms ps b
          have h2 := ih.2.1 ls (renPs nms ps b).2 u (by omega)
          dsimp only
          omega
        split
        · have h2 := ih.2.1 ls b (u + 1) (by omega)
          dsimp only
          omega
        · have h2 := ih.2.1 ls b u (by omega)
          dsimp only
          omega
    · intro l b u h
      cases l with
      | nil => simp only [renEs, nEs]; omega
      | cons a r =>
        simp only [List.cons.sizeOf_spec] at h
        simp only [renEs, nEs]
        have h1 := ih.1 a b u (by omega)
        have h2 := ih.2.1 r (renE us nms a b u).2.1 (renE us nms a b u).2.2 (by omega)
        omega
    · intro l ps b u h
      cases l with
      | nil =>
        simp only [renArms, nEs]
        have := cntAll nms ps b
        omega
      | cons a r =>
        simp only [List.cons.sizeOf_spec] at h
        cases ps with
        | nil =>
          simp only [renArms, nEs, nPs]
          have h1 := ih.1 a b u (by omega)
          have h2 := ih.2.2 r [] (renE us nms a b u).2.1 (renE us nms a b u).2.2 (by omega)
          simp only [nPs] at h2
          omega
        | cons p ps =>
          simp only [renArms, nEs, nPs]
          have h0 := cntPs nms [p] b
          have h1 := ih.1 a (renPs nms [p] b).2 u (by omega)
          have h2 := ih.2.2 r ps (renE us nms a (renPs nms [p] b).2 u).2.1 (renE us nms a (renPs nms [p] b).2 u).2.2 (by omega)
          simp only [nPs] at h0
          omega
theorem cntE (e : Exr) (b u : Nat) : (renE us nms e b u).2.1 ≤ b + nE e ∧ (renE us nms e b u).2.2 ≤ u + nE e := (renE_cnt us nms _).1 e b u (Nat.lt_succ_self _)
theorem cntEs (l : List Exr) (b u : Nat) : (renEs us nms l b u).2.1 ≤ b + nEs l ∧ (renEs us nms l b u).2.2 ≤ u + nEs l := (renE_cnt us nms _).2.1 l b u (Nat.lt_succ_self _)
theorem renAll_len : ∀ (ps : List Pat) (b : Nat), (renAll nms ps b).1.length = ps.length
  | [], b => by simp [renAll]
  | p :: ps, b => by simp only [renAll, List.length_append, renPs_len, List.length_cons, List.length_nil, renAll_len ps]; omega
theorem renArms_len : ∀ (l : List Exr) (ps : List Pat) (b u : Nat), (renArms us nms l ps b u).1.length = ps.length
  | [], ps, b, u => by simp only [renArms, renAll_len]
  | a :: r, [], b, u => by simp only [renArms, renArms_len r []]
  | a :: r, p :: ps, b, u => by simp only [renArms, List.length_append, renPs_len, List.length_cons, List.length_nil, renArms_len r ps]; omega
end
end Go.Scope
/- Renaming keeps how many parts there are. -/
namespace Go.Scope

theorem renP_n (nms : List Tx) : ∀ (n : Nat), (∀ (p : Pat) b, SizeOf.sizeOf p < n → nP (renP nms p b).1 = nP p) ∧ (∀ (ps : List Pat) b, SizeOf.sizeOf ps < n → nPs (renPs nms ps b).1 = nPs ps) := by
  intro n
  induction n with
  | zero => exact ⟨fun _ _ h => by omega, fun _ _ h => by omega⟩
  | succ n ih =>
    constructor
    · intro p b h
      cases p with
      | mk k lit sp nm ps =>
        simp only [Pat.mk.sizeOf_spec] at h
        simp only [renP]
        split
        · simp only [nP, ih.2 ps (b + 1) (by omega)]
        · simp only [nP, ih.2 ps b (by omega)]
    · intro ps b h
      cases ps with
      | nil => simp only [renPs]
      | cons p ps =>
        simp only [List.cons.sizeOf_spec] at h
        simp only [renPs, nPs, ih.1 p b (by omega), ih.2 ps (renP nms p b).2 (by omega)]
theorem nPs_ren (nms : List Tx) (ps : List Pat) (b : Nat) : nPs (renPs nms ps b).1 = nPs ps := (renP_n nms _).2 ps b (Nat.lt_succ_self _)
theorem nPs_renAll (nms : List Tx) : ∀ (ps : List Pat) (b : Nat), nPs (renAll nms ps b).1 = nPs ps
  | [], b => by simp only [renAll]
  | p :: ps, b => by
    simp only [renAll, nPs_app, nPs_ren, nPs_renAll nms ps, nPs]
    omega
section
variable (us : List (Tx × Sp × Int)) (nms : List Tx)
theorem renE_n : ∀ (n : Nat), (∀ (e : Exr) b u, SizeOf.sizeOf e < n → nE (renE us nms e b u).1 = nE e) ∧ (∀ (l : List Exr) b u, SizeOf.sizeOf l < n → nEs (renEs us nms l b u).1 = nEs l) ∧
    (∀ (l : List Exr) ps b u, SizeOf.sizeOf l < n → nPs (renArms us nms l ps b u).1 = nPs ps ∧ nEs (renArms us nms l ps b u).2.1 = nEs l) := by
  intro n
  induction n with
  | zero => exact ⟨fun _ _ _ h => by omega, fun _ _ _ h => by omega, fun _ _ _ _ h => by omega⟩
  | succ n ih =>
    refine ⟨?_, ?_, ?_⟩
    · intro e b u h
      cases e with
      | mk k sp rc nm ps ls =>
        simp only [Exr.mk.sizeOf_spec] at h
        simp only [renE]
        split
        · cases ls with
          | nil => simp only [nE, renM, nPs_renAll, nEs]
          | cons a r =>
            simp only [List.cons.sizeOf_spec] at h
            have h2 := ih.2.2 r ps (renE us nms a b u).2.1 (renE us nms a b u).2.2 (by omega)
            simp only [nE, renM, nEs, h2.1, h2.2, ih.1 a b u (by omega)]
        split
        · simp only [nE, nPs_ren, ih.2.1 ls (renPs nms ps b).2 u (by omega)]
        split
        · simp only [nE, ih.2.1 ls b (u + 1) (by omega)]
        · simp only [nE, ih.2.1 ls b u (by omega)]
    · intro l b u h
      cases l with
      | nil => simp only [renEs]
      | cons a r =>
        simp only [List.cons.sizeOf_spec] at h
        simp only [renEs, nEs, ih.1 a b u (by omega), ih.2.1 r (renE us nms a b u).2.1 (renE us nms a b u).2.2 (by omega)]
    · intro l ps b u h
      cases l with
      | nil => simp only [renArms, nPs_renAll, nEs]; exact ⟨trivial, trivial⟩
      | cons a r =>
        simp only [List.cons.sizeOf_spec] at h
        cases ps with
        | nil =>
          have h2 := ih.2.2 r [] (renE us nms a b u).2.1 (renE us nms a b u).2.2 (by omega)
          simp only [renArms, nEs, h2.1, h2.2, ih.1 a b u (by omega)]
          exact ⟨trivial, trivial⟩
        | cons p ps =>
          have h2 := ih.2.2 r ps (renE us nms a (renPs nms [p] b).2 u).2.1 (renE us nms a (renPs nms [p] b).2 u).2.2 (by omega)
          simp only [renArms, nEs, nPs_app, nPs_ren, h2.1, h2.2, ih.1 a (renPs nms [p] b).2 u (by omega), nPs]
          exact ⟨by omega, trivial⟩
theorem nE_ren (e : Exr) (b u : Nat) : nE (renE us nms e b u).1 = nE e := (renE_n us nms _).1 e b u (Nat.lt_succ_self _)
theorem nEs_ren (l : List Exr) (b u : Nat) : nEs (renEs us nms l b u).1 = nEs l := (renE_n us nms _).2.1 l b u (Nat.lt_succ_self _)
end
theorem nEs_app : ∀ (l m : List Exr), nEs (l ++ m) = nEs l + nEs m
  | [], m => by simp [nEs]
  | p :: l, m => by simp only [List.cons_append, nEs, nEs_app l m]; omega
theorem lenE : ∀ (l : List Exr), l.length ≤ nEs l
  | [] => Nat.zero_le _
  | .mk k sp rc nm ps ls :: l => by
    have := lenE l
    simp only [List.length_cons, nEs, nE]; omega
theorem lenP : ∀ (l : List Pat), l.length ≤ nPs l
  | [] => Nat.zero_le _
  | .mk k lit sp nm ps :: l => by
    have := lenP l
    simp only [List.length_cons, nPs, nP]; omega
end Go.Scope
