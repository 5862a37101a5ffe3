/-
  (A part of the proof: ScopeSpec, ScopeRen, ScopeLaw, ScopeMap, ScopeCnt.)
-/
/- What names mean, ls plain functions. -/
namespace Go.Scope

abbrev Tx := List UInt8
abbrev Sp := Int × Int
inductive Pat where
  | mk (k lit : Nat) (sp : Sp) (nm : Tx) (ps : List Pat)
  deriving Inhabited
inductive Exr where
  | mk (k : Nat) (sp : Sp) (rc : Bool) (nm : Tx) (ps : List Pat) (ls : List Exr)
  deriving Inhabited
structure Bd where
  sp : Sp
  rc : Bool
  ps : List Pat
  body : Exr
structure Tb where
  bs : List (Tx × Sp)
  us : List (Tx × Sp × Int)
  tw : List Nat
def Tb.none : Tb := ⟨[], [], []⟩

/-- A binder more, of a group that began there. -/
def bindT (fr : Nat) (nm : Tx) (sp : Sp) (t : Tb) : Tb := ⟨t.bs ++ [(nm, sp)], t.us, if (t.bs.drop fr).any (fun b => b.1 == nm) = true then t.tw ++ [t.bs.length] else t.tw⟩
mutual
def grp (fr : Nat) : Pat → Tb → List Nat → Tb × List Nat
  | .mk k _ sp nm ps, t, bd => if k = 15 then grps fr ps (bindT fr nm sp t) (bd ++ [t.bs.length]) else grps fr ps t bd
def grps (fr : Nat) : List Pat → Tb → List Nat → Tb × List Nat
  | [], t, bd => (t, bd)
  | p :: ps, t, bd => grps fr ps (grp fr p t bd).1 (grp fr p t bd).2
end
def binders (ps : List Pat) (t : Tb) (bd : List Nat) : Tb × List Nat := grps t.bs.length ps t bd
def sNot : Tx := [110, 111, 116]
def sFst : Tx := [102, 115, 116]
def sSnd : Tx := [115, 110, 100]
def sFloat : Tx := [102, 108, 111, 97, 116]
def given (nm : Tx) : Bool := [sNot, sFst, sSnd, sFloat].any fun s => s == nm
/-- Has that binder that name? -/
def hasNm (bs : List (Tx × Sp)) (nm : Tx) (i : Nat) : Bool := (bs[i]?.map (·.1)) == some nm
/-- The last one of some binders that has a name. -/
def seek (bs : List (Tx × Sp)) (nm : Tx) (bd : List Nat) : Option Nat := bd.reverse.find? (hasNm bs nm)
def means (bs : List (Tx × Sp)) (nm : Tx) (bd : List Nat) : Int :=
  match seek bs nm bd with
  | some i => (i : Int)
  | none => if given nm = true then -2 else -1
def useT (nm : Tx) (sp : Sp) (t : Tb) (bd : List Nat) : Tb := ⟨t.bs, t.us ++ [(nm, sp, means t.bs nm bd)], t.tw⟩
/-- A let's patterns: the table, what is bound behind it, what is bound in what it is. -/
def two (rc : Bool) (ps : List Pat) (t : Tb) (bd : List Nat) : Tb × List Nat × List Nat :=
  let r := binders (ps.take 1) t bd
  let q := binders (ps.drop 1) r.1 (if rc = true then r.2 else bd)
  (q.1, r.2, q.2)
/-- Patterns, each a group of its own. -/
def alls : List Pat → Tb → List Nat → Tb
  | [], t, _ => t
  | p :: ps, t, bd => alls ps (binders [p] t bd).1 bd
mutual
def expr : Exr → Tb → List Nat → Tb
  | .mk k sp rc nm ps ls, t, bd =>
    if k = 11 then exprs ls (binders ps t bd).1 (binders ps t bd).2
    else if k = 14 then letA ls (two rc ps t bd).1 (two rc ps t bd).2.1 (two rc ps t bd).2.2
    else if k = 13 then matchA ls ps t bd
    else exprs ls (if k = 1 then useT nm sp t bd else t) bd
def exprs : List Exr → Tb → List Nat → Tb
  | [], t, _ => t
  | e :: l, t, bd => exprs l (expr e t bd) bd
def letA : List Exr → Tb → List Nat → List Nat → Tb
  | [], t, _, _ => t
  | a :: r, t, first, inner => exprs r (expr a t inner) first
def matchA : List Exr → List Pat → Tb → List Nat → Tb
  | [], ps, t, bd => alls ps t bd
  | a :: r, ps, t, bd => armsA r ps (expr a t bd) bd
def armsA : List Exr → List Pat → Tb → List Nat → Tb
  | [], ps, t, bd => alls ps t bd
  | e :: r, [], t, bd => armsA r [] (expr e t bd) bd
  | e :: r, p :: ps, t, bd => armsA r ps (expr e (binders [p] t bd).1 (binders [p] t bd).2) bd
end
def decls : List Bd → Tb → List Nat → Tb
  | [], t, _ => t
  | d :: l, t, row => decls l (expr d.body (two d.rc d.ps t row).1 (two d.rc d.ps t row).2.2) (two d.rc d.ps t row).2.1
def ofS (l : List Bd) : Tb := decls l Tb.none []

/-! What grows. -/
structure Ext (t t' : Tb) : Prop where
  bs : ∃ x, t'.bs = t.bs ++ x
  us : ∃ x, t'.us = t.us ++ x
  tw : ∃ x, t'.tw = t.tw ++ x
theorem Ext.refl (t : Tb) : Ext t t := ⟨⟨[], by simp⟩, ⟨[], by simp⟩, ⟨[], by simp⟩⟩
theorem Ext.trans {a b c : Tb} (h : Ext a b) (k : Ext b c) : Ext a c := by
  obtain ⟨⟨x1, h1⟩, ⟨x2, h2⟩, ⟨x3, h3⟩⟩ := h
  obtain ⟨⟨y1, k1⟩, ⟨y2, k2⟩, ⟨y3, k3⟩⟩ := k
  exact ⟨⟨x1 ++ y1, by rw [k1, h1, List.append_assoc]⟩, ⟨x2 ++ y2, by rw [k2, h2, List.append_assoc]⟩, ⟨x3 ++ y3, by rw [k3, h3, List.append_assoc]⟩⟩
theorem ext_bind (fr : Nat) (nm : Tx) (sp : Sp) (t : Tb) : Ext t (bindT fr nm sp t) := by
  refine ⟨⟨_, rfl⟩, ⟨[], by simp [bindT]⟩, ?_⟩
  unfold bindT
  dsimp only
  split
  · exact ⟨_, rfl⟩
  · exact ⟨[], by simp⟩
/-- An invariant of patterns: of a table and of what is bound. -/
theorem grps_inv {I : Tb → List Nat → Prop} {fr : Nat} (hb : ∀ nm sp t bd, fr ≤ t.bs.length → I t bd → I (bindT fr nm sp t) (bd ++ [t.bs.length])) : ∀ (n : Nat),
    (∀ (p : Pat) t bd, SizeOf.sizeOf p < n → fr ≤ t.bs.length → I t bd → I (grp fr p t bd).1 (grp fr p t bd).2 ∧ fr ≤ (grp fr p t bd).1.bs.length) ∧
    (∀ (ps : List Pat) t bd, SizeOf.sizeOf ps < n → fr ≤ t.bs.length → I t bd → I (grps fr ps t bd).1 (grps fr ps t bd).2 ∧ fr ≤ (grps fr ps t bd).1.bs.length) := by
  intro n
  induction n with
  | zero => exact ⟨fun _ _ _ h => by omega, fun _ _ _ h => by omega⟩
  | succ n ih =>
    constructor
    · intro p t bd h hf hi
      cases p with
      | mk k lit sp nm ps =>
        simp only [Pat.mk.sizeOf_spec] at h
        simp only [grp]
        split
        · refine ih.2 ps _ _ (by omega) ?_ (hb nm sp t bd hf hi)
          show fr ≤ (t.bs ++ [(nm, sp)]).length
          rw [List.length_append]; omega
        · exact ih.2 ps _ _ (by omega) hf hi
    · intro ps t bd h hf hi
      cases ps with
      | nil => simp only [grps]; exact ⟨hi, hf⟩
      | cons p ps =>
        simp only [List.cons.sizeOf_spec] at h
        simp only [grps]
        obtain ⟨h1, h2⟩ := ih.1 p t bd (by omega) hf hi
        exact ih.2 ps _ _ (by omega) h2 h1
theorem binders_inv {I : Tb → List Nat → Prop} {ps : List Pat} {t : Tb} {bd : List Nat} (hb : ∀ nm sp u b, t.bs.length ≤ u.bs.length → I u b → I (bindT t.bs.length nm sp u) (b ++ [u.bs.length])) (h : I t bd) : I (binders ps t bd).1 (binders ps t bd).2 :=
  ((grps_inv (I := I) hb _).2 ps t bd (Nat.lt_succ_self _) (Nat.le_refl _) h).1
theorem two_inv {I : Tb → List Nat → Prop} {rc : Bool} {ps : List Pat} {t : Tb} {bd : List Nat} (hb : ∀ fr nm sp u b, fr ≤ u.bs.length → I u b → I (bindT fr nm sp u) (b ++ [u.bs.length]))
    (hm : ∀ u v b c, Ext u v → I u b → I v c → I v b) (hx : ∀ ps u b, I u b → Ext u (binders ps u b).1) (h : I t bd) : I (two rc ps t bd).1 (two rc ps t bd).2.1 ∧ I (two rc ps t bd).1 (two rc ps t bd).2.2 ∧ I (two rc ps t bd).1 bd := by
  have h1 := binders_inv (I := I) (ps := ps.take 1) (fun nm sp u b hf hi => hb _ nm sp u b hf hi) h
  have e1 := hx (ps.take 1) t bd h
  have h0 := hm _ _ _ _ e1 h h1
  have h2 : I (binders (ps.take 1) t bd).1 (if rc = true then (binders (ps.take 1) t bd).2 else bd) := by split <;> assumption
  have h3 := binders_inv (I := I) (ps := ps.drop 1) (fun nm sp u b hf hi => hb _ nm sp u b hf hi) h2
  have e2 := hx (ps.drop 1) _ _ h2
  exact ⟨hm _ _ _ _ e2 h1 h3, h3, hm _ _ _ _ e2 h0 h3⟩
theorem binders_ext (ps : List Pat) (t : Tb) (bd : List Nat) : Ext t (binders ps t bd).1 :=
  binders_inv (I := fun u _ => Ext t u) (fun nm sp u _ _ h => h.trans (ext_bind _ nm sp u)) (Ext.refl t)
/-- An invariant of expressions. -/
theorem expr_inv {I : Tb → List Nat → Prop} (hb : ∀ fr nm sp u b, fr ≤ u.bs.length → I u b → I (bindT fr nm sp u) (b ++ [u.bs.length])) (hm : ∀ u v b c, Ext u v → I u b → I v c → I v b)
    (hu : ∀ nm sp t bd, I t bd → I (useT nm sp t bd) bd) : ∀ (n : Nat),
    (∀ (e : Exr) t bd, SizeOf.sizeOf e < n → I t bd → I (expr e t bd) bd ∧ Ext t (expr e t bd)) ∧
    (∀ (l : List Exr) t bd, SizeOf.sizeOf l < n → I t bd → I (exprs l t bd) bd ∧ Ext t (exprs l t bd)) ∧
    (∀ (l : List Exr) ps t bd, SizeOf.sizeOf l < n → I t bd → I (armsA l ps t bd) bd ∧ Ext t (armsA l ps t bd)) := by
  have hal : ∀ (ps : List Pat) t bd, I t bd → I (alls ps t bd) bd ∧ Ext t (alls ps t bd) := by
    intro ps
    induction ps with
    | nil => intro t bd h; simp only [alls]; exact ⟨h, Ext.refl t⟩
    | cons p ps ih =>
      intro t bd h
      simp only [alls]
      have h1 := binders_inv (I := I) (ps := [p]) (fun nm sp u b hf hi => hb _ nm sp u b hf hi) h
      have e1 := binders_ext [p] t bd
      obtain ⟨k1, k2⟩ := ih _ bd (hm _ _ _ _ e1 h h1)
      exact ⟨k1, e1.trans k2⟩
  intro n
  induction n with
  | zero => exact ⟨fun _ _ _ h => by omega, fun _ _ _ h => by omega, fun _ _ _ _ h => by omega⟩
  | succ n ih =>
    refine ⟨?_, ?_, ?_⟩
    · intro e t bd h hi
      cases e with
      | mk k sp rc nm ps ls =>
        simp only [Exr.mk.sizeOf_spec] at h
        simp only [expr]
        split
        · have h1 := binders_inv (I := I) (ps := ps) (fun nm sp u b hf hi => hb _ nm sp u b hf hi) hi
          have e1 := binders_ext ps t bd
          obtain ⟨k1, k2⟩ := ih.2.1 ls _ _ (by omega) h1
          exact ⟨hm _ _ _ _ (e1.trans k2) hi k1, e1.trans k2⟩
        split
        · obtain ⟨h1, h2, h3⟩ := two_inv (I := I) (rc := rc) (ps := ps) hb hm (fun ps u b _ => binders_ext ps u b) hi
          have e1 : Ext t (two rc ps t bd).1 := (binders_ext _ _ _).trans (binders_ext _ _ _)
          cases ls with
          | nil => simp only [letA]; exact ⟨h3, e1⟩
          | cons a r =>
            simp only [List.cons.sizeOf_spec] at h
            simp only [letA]
            obtain ⟨k1, k2⟩ := ih.1 a _ _ (by omega) h2
            obtain ⟨j1, j2⟩ := ih.2.1 r _ _ (by omega) (hm _ _ _ _ k2 h1 k1)
            exact ⟨hm _ _ _ _ (k2.trans j2) h3 j1, e1.trans (k2.trans j2)⟩
        split
        · cases ls with
          | nil => simp only [matchA]; exact hal ps t bd hi
          | cons a r =>
            simp only [List.cons.sizeOf_spec] at h
            simp only [matchA]
            obtain ⟨k1, k2⟩ := ih.1 a _ _ (by omega) hi
            obtain ⟨j1, j2⟩ := ih.2.2 r ps _ _ (by omega) k1
            exact ⟨j1, k2.trans j2⟩
        · split
          · have e1 : Ext t (useT nm sp t bd) := ⟨⟨[], by simp [useT]⟩, ⟨_, rfl⟩, ⟨[], by simp [useT]⟩⟩
            obtain ⟨k1, k2⟩ := ih.2.1 ls _ _ (by omega) (hu nm sp t bd hi)
            exact ⟨k1, e1.trans k2⟩
          · exact ih.2.1 ls _ _ (by omega) hi
    · intro l t bd h hi
      cases l with
      | nil => simp only [exprs]; exact ⟨hi, Ext.refl t⟩
      | cons a r =>
        simp only [List.cons.sizeOf_spec] at h
        simp only [exprs]
        obtain ⟨k1, k2⟩ := ih.1 a t bd (by omega) hi
        obtain ⟨j1, j2⟩ := ih.2.1 r _ _ (by omega) k1
        exact ⟨j1, k2.trans j2⟩
    · intro l ps t bd h hi
      cases l with
      | nil => simp only [armsA]; exact hal ps t bd hi
      | cons a r =>
        simp only [List.cons.sizeOf_spec] at h
        cases ps with
        | nil =>
          simp only [armsA]
          obtain ⟨k1, k2⟩ := ih.1 a t bd (by omega) hi
          obtain ⟨j1, j2⟩ := ih.2.2 r [] _ _ (by omega) k1
          exact ⟨j1, k2.trans j2⟩
        | cons p ps =>
          simp only [armsA]
          have h1 := binders_inv (I := I) (ps := [p]) (fun nm sp u b hf hi => hb _ nm sp u b hf hi) hi
          have e1 := binders_ext [p] t bd
          obtain ⟨k1, k2⟩ := ih.1 a _ _ (by omega) h1
          obtain ⟨j1, j2⟩ := ih.2.2 r ps _ _ (by omega) (hm _ _ _ _ (e1.trans k2) hi k1)
          exact ⟨j1, (e1.trans k2).trans j2⟩
theorem decls_inv {I : Tb → List Nat → Prop} (hb : ∀ fr nm sp u b, fr ≤ u.bs.length → I u b → I (bindT fr nm sp u) (b ++ [u.bs.length])) (hm : ∀ u v b c, Ext u v → I u b → I v c → I v b)
    (hu : ∀ nm sp t bd, I t bd → I (useT nm sp t bd) bd) : ∀ (l : List Bd) t row, I t row → (∃ row', I (decls l t row) row') ∧ Ext t (decls l t row)
  | [], t, row, h => by simp only [decls]; exact ⟨⟨row, h⟩, Ext.refl t⟩
  | d :: l, t, row, h => by
    simp only [decls]
    obtain ⟨h1, h2, h3⟩ := two_inv (I := I) (rc := d.rc) (ps := d.ps) hb hm (fun ps u b _ => binders_ext ps u b) h
    have e1 : Ext t (two d.rc d.ps t row).1 := (binders_ext _ _ _).trans (binders_ext _ _ _)
    obtain ⟨k1, k2⟩ := (expr_inv hb hm hu _).1 d.body _ _ (Nat.lt_succ_self _) h2
    obtain ⟨j1, j2⟩ := decls_inv hb hm hu l _ _ (hm _ _ _ _ k2 h1 k1)
    exact ⟨j1, e1.trans (k2.trans j2)⟩
theorem decls_app : ∀ (l m : List Bd) t row, ∃ row', decls (l ++ m) t row = decls m (decls l t row) row'
  | [], m, t, row => ⟨row, rfl⟩
  | d :: l, m, t, row => by
    obtain ⟨r, h⟩ := decls_app l m (expr d.body (two d.rc d.ps t row).1 (two d.rc d.ps t row).2.2) (two d.rc d.ps t row).2.1
    exact ⟨r, by simp only [List.cons_append, decls]; exact h⟩
/-- Declarations put behind change nothing ahead. -/
theorem behind_ext (l m : List Bd) : Ext (ofS l) (ofS (l ++ m)) := by
  obtain ⟨r, h⟩ := decls_app l m Tb.none []
  unfold ofS
  rw [h]
  exact (decls_inv (I := fun _ _ => True) (fun _ _ _ _ _ _ _ => trivial) (fun _ _ _ _ _ _ _ => trivial) (fun _ _ _ _ _ => trivial) m _ r trivial).2
/-! What a table is like. -/
def useOk (bs : List (Tx × Sp)) (u : Tx × Sp × Int) : Prop := (∃ k : Nat, u.2.2 = (k : Int) ∧ ∃ s, bs[k]? = some (u.1, s)) ∨ (u.2.2 = -2 ∧ given u.1 = true) ∨ (u.2.2 = -1 ∧ given u.1 = false)
structure Good (t : Tb) (bd : List Nat) : Prop where
  us : ∀ u ∈ t.us, useOk t.bs u
  bd : ∀ i ∈ bd, i < t.bs.length
  tw : ∀ i ∈ t.tw, 1 ≤ i ∧ i < t.bs.length
  up : t.tw.Pairwise (· < ·)
theorem useOk.ext {bs x : List (Tx × Sp)} {u : Tx × Sp × Int} (h : useOk bs u) : useOk (bs ++ x) u := by
  rcases h with ⟨k, h1, s, h2⟩ | h | h
  · refine .inl ⟨k, h1, s, ?_⟩
    rw [List.getElem?_append_left (List.getElem?_eq_some_iff.1 h2).1]
    exact h2
  · exact .inr (.inl h)
  · exact .inr (.inr h)
theorem seek_some {bs : List (Tx × Sp)} {nm : Tx} {bd : List Nat} {i : Nat} (h : seek bs nm bd = some i) : i ∈ bd ∧ ∃ s, bs[i]? = some (nm, s) := by
  unfold seek at h
  have h1 := List.find?_some h
  have h2 := List.mem_of_find?_eq_some h
  refine ⟨by simpa using h2, ?_⟩
  unfold hasNm at h1
  cases hb : bs[i]? with
  | none => rw [hb] at h1; simp at h1
  | some b =>
    rw [hb] at h1
    simp only [Option.map_some, beq_iff_eq, Option.some.injEq] at h1
    exact ⟨b.2, by rw [← h1]⟩
end Go.Scope
/- Other names for binders, and their uses with them. -/
namespace Go.Scope

section
variable (T : Tb) (nms : List Tx)
/-- Names that may be put. -/
structure Fit (D : Prop) : Prop where
  len : nms.length = T.bs.length
  use : ∀ (bd : List Nat) (nm : Tx) (sp : Sp) (k : Int) (bs : List (Tx × Sp)), (∀ i ∈ bd, i < T.bs.length) → (nm, sp, k) ∈ T.us → means T.bs nm bd = k → (∀ i, i < T.bs.length → ∃ s, bs[i]? = some (nms.getD i [], s)) →
    means bs (if 0 ≤ k ∧ k < (nms.length : Int) then nms.getD k.toNat [] else nm) bd = k
  dis : D → ∀ i j, i < j → j < T.bs.length → nms.getD i [] ≠ nms.getD j []
/-- The same but for names. -/
structure Rl (D : Prop) (t t' : Tb) : Prop where
  len : t'.bs.length = t.bs.length
  bs : ∀ (i : Nat) (b : Tx × Sp), t.bs[i]? = some b → t'.bs[i]? = some (nms.getD i [], b.2)
  us : t'.us.map (·.2) = t.us.map (·.2)
  tw : D → t'.tw = []
variable {T nms} {D : Prop}
theorem seek_bs {bs bs' : List (Tx × Sp)} {nm : Tx} : ∀ {bd : List Nat}, (∀ i ∈ bd, hasNm bs nm i = hasNm bs' nm i) → seek bs nm bd = seek bs' nm bd := by
  intro bd h
  unfold seek
  have h' : ∀ i ∈ bd.reverse, hasNm bs nm i = hasNm bs' nm i := fun i hi => h i (by simpa using hi)
  generalize bd.reverse = l at h'
  induction l with
  | nil => rfl
  | cons a l ih =>
    simp only [List.find?_cons]
    rw [h' a List.mem_cons_self, ih fun i hi => h' i (List.mem_cons_of_mem _ hi)]
theorem ext_grp (fr : Nat) (p : Pat) (t : Tb) (bd : List Nat) (hf : fr ≤ t.bs.length) : Ext t (grp fr p t bd).1 ∧ fr ≤ (grp fr p t bd).1.bs.length :=
  (grps_inv (I := fun u _ => Ext t u) (fun nm sp u _ _ h => h.trans (ext_bind _ nm sp u)) _).1 p t bd (Nat.lt_succ_self _) hf (Ext.refl t)
theorem ext_grps (fr : Nat) (ps : List Pat) (t : Tb) (bd : List Nat) (hf : fr ≤ t.bs.length) : Ext t (grps fr ps t bd).1 ∧ fr ≤ (grps fr ps t bd).1.bs.length :=
  (grps_inv (I := fun u _ => Ext t u) (fun nm sp u _ _ h => h.trans (ext_bind _ nm sp u)) _).2 ps t bd (Nat.lt_succ_self _) hf (Ext.refl t)
/-- What is bound lies in the table. -/
def In (t : Tb) (bd : List Nat) : Prop := ∀ i ∈ bd, i < t.bs.length
theorem In.ext {t u : Tb} {bd : List Nat} (h : In t bd) (e : Ext t u) : In u bd := fun i hi => by
  obtain ⟨x, hx⟩ := e.bs
  have := h i hi
  rw [hx, List.length_append]; omega
theorem in_bind (fr : Nat) (nm : Tx) (sp : Sp) (t : Tb) (bd : List Nat) (h : In t bd) : In (bindT fr nm sp t) (bd ++ [t.bs.length]) := fun i hi => by
  show i < (t.bs ++ [(nm, sp)]).length
  rw [List.length_append]
  rcases List.mem_append.1 hi with hi | hi
  · have := h i hi; omega
  · have : i = t.bs.length := by simpa using hi
    simp; omega
theorem in_binders {ps : List Pat} {t : Tb} {bd : List Nat} (h : In t bd) : In (binders ps t bd).1 (binders ps t bd).2 :=
  binders_inv (I := In) (fun nm sp u b _ hi => in_bind _ nm sp u b hi) h
theorem ext_expr (e : Exr) (t : Tb) (bd : List Nat) : Ext t (expr e t bd) := ((expr_inv (I := fun _ _ => True) (fun _ _ _ _ _ _ _ => trivial) (fun _ _ _ _ _ _ _ => trivial) (fun _ _ _ _ _ => trivial) _).1 e t bd (Nat.lt_succ_self _) trivial).2
theorem ext_exprs (l : List Exr) (t : Tb) (bd : List Nat) : Ext t (exprs l t bd) := ((expr_inv (I := fun _ _ => True) (fun _ _ _ _ _ _ _ => trivial) (fun _ _ _ _ _ _ _ => trivial) (fun _ _ _ _ _ => trivial) _).2.1 l t bd (Nat.lt_succ_self _) trivial).2
theorem ext_arms (l : List Exr) (ps : List Pat) (t : Tb) (bd : List Nat) : Ext t (armsA l ps t bd) := ((expr_inv (I := fun _ _ => True) (fun _ _ _ _ _ _ _ => trivial) (fun _ _ _ _ _ _ _ => trivial) (fun _ _ _ _ _ => trivial) _).2.2 l ps t bd (Nat.lt_succ_self _) trivial).2
theorem ext_alls : ∀ (ps : List Pat) (t : Tb) (bd : List Nat), Ext t (alls ps t bd)
  | [], t, bd => Ext.refl t
  | p :: ps, t, bd => by simp only [alls]; exact (binders_ext [p] t bd).trans (ext_alls ps _ bd)
end
end Go.Scope
/- Other names: no meaning changes. -/
namespace Go.Scope

theorem ext_decls (l : List Bd) (t : Tb) (row : List Nat) : Ext t (decls l t row) :=
  (decls_inv (I := fun _ _ => True) (fun _ _ _ _ _ _ _ => trivial) (fun _ _ _ _ _ _ _ => trivial) (fun _ _ _ _ _ => trivial) l t row trivial).2
/-! Names that stand nowhere. -/
def digs (n : Nat) : Tx := if h : n < 10 then [48 + UInt8.ofNat n] else digs (n / 10) ++ [48 + UInt8.ofNat (n % 10)]
termination_by n
decreasing_by omega
def fresh (long n : Nat) : Tx := List.replicate (long + 1) 122 ++ digs n
theorem fresh_len (long i : Nat) : long < (fresh long i).length := by
  unfold fresh
  rw [List.length_append, List.length_replicate]
  omega
theorem hasNm_of {bs : List (Tx × Sp)} {nm n : Tx} {i : Nat} {s : Sp} (h : bs[i]? = some (n, s)) : hasNm bs nm i = (n == nm) := by
  unfold hasNm
  rw [h]
  show (some n == some nm) = _
  rw [Option.some_beq_some]
theorem find_less {α : Type} {p q : α → Bool} {k : α} : ∀ {l : List α}, (∀ i ∈ l, q i = true → p i = true) → q k = true → l.find? p = some k → l.find? q = some k
  | [], _, _, h => by simp at h
  | a :: l, hl, hk, h => by
    rw [List.find?_cons] at h ⊢
    cases hp : p a with
    | true =>
      rw [hp] at h
      simp only [Option.some.injEq] at h
      rw [h, hk]
    | false =>
      rw [hp] at h
      have : q a = false := by
        cases hq : q a with
        | false => rfl
        | true => rw [hl a List.mem_cons_self hq] at hp; cases hp
      rw [this]
      exact find_less (fun i hi => hl i (List.mem_cons_of_mem _ hi)) hk h
/-- Is a name no longer than that? -/
structure Long (T : Tb) (long : Nat) : Prop where
  bs : ∀ b ∈ T.bs, b.1.length ≤ long
  us : ∀ u ∈ T.us, u.1.length ≤ long
theorem means_some {bs : List (Tx × Sp)} {nm : Tx} {bd : List Nat} {k : Int} (h : means bs nm bd = k) (h0 : 0 ≤ k) : seek bs nm bd = some k.toNat := by
  unfold means at h
  cases hs : seek bs nm bd with
  | some i => rw [hs] at h; rw [← h]; rfl
  | none => rw [hs] at h; dsimp only at h; split at h <;> omega
theorem means_none {bs : List (Tx × Sp)} {nm : Tx} {bd : List Nat} (h : seek bs nm bd = none) : means bs nm bd = if given nm = true then -2 else -1 := by unfold means; rw [h]
theorem means_neg {bs : List (Tx × Sp)} {nm : Tx} {bd : List Nat} {k : Int} (h : means bs nm bd = k) (h0 : k < 0) : seek bs nm bd = none := by
  unfold means at h
  cases hs : seek bs nm bd with
  | none => rfl
  | some i => rw [hs] at h; dsimp only at h; omega
/-- One name fresh. -/
def oneFresh (long : Nat) (bs : List (Tx × Sp)) (k : Nat) : List Tx := (List.range bs.length).map fun i => if i = k then fresh long i else (bs[i]?.map (·.1)).getD []
theorem oneFresh_getD {long k i : Nat} {bs : List (Tx × Sp)} {b : Tx × Sp} (h : bs[i]? = some b) : (oneFresh long bs k).getD i [] = if i = k then fresh long i else b.1 := by
  unfold oneFresh
  rw [List.getD_eq_getElem?_getD, List.getElem?_map, List.getElem?_range (List.getElem?_eq_some_iff.1 h).1]
  show (some _).getD [] = _
  rw [Option.getD_some]
  dsimp only
  rw [h]
  rfl
theorem fit_one {T : Tb} {row : List Nat} (_hG : Good T row) {long : Nat} (hL : Long T long) {k0 : Nat} (hk : ∀ u ∈ T.us, u.2.2 ≠ (k0 : Int)) : Fit T (oneFresh long T.bs k0) False := by
  have hlen : (oneFresh long T.bs k0).length = T.bs.length := by simp [oneFresh]
  refine ⟨hlen, fun bd nm sp k bs hbd hmem hm hbs => ?_, fun h => h.elim⟩
  rw [hlen]
  have hnl := hL.us _ hmem
  dsimp only at hnl
  have hne := hk _ hmem
  dsimp only at hne
  have hless : ∀ i ∈ bd.reverse, hasNm bs nm i = true → hasNm T.bs nm i = true := fun i hi hq => by
    have hil := hbd i (by simpa using hi)
    obtain ⟨s', hs'⟩ := hbs i hil
    have hb := List.getElem?_eq_getElem hil
    rw [hasNm_of hs', oneFresh_getD hb] at hq
    rw [hasNm_of (n := T.bs[i].1) (s := T.bs[i].2) hb]
    split at hq
    · have h1 : fresh long i = nm := by simpa using hq
      have h2 := fresh_len long i
      rw [h1] at h2
      omega
    · exact hq
  by_cases h0 : 0 ≤ k
  · have hs := means_some hm h0
    obtain ⟨hi, s, hsb⟩ := seek_some hs
    have hlt := hbd _ hi
    have hkk : k.toNat ≠ k0 := by omega
    have hg : (oneFresh long T.bs k0).getD k.toNat [] = nm := by rw [oneFresh_getD hsb, if_neg hkk]
    rw [if_pos ⟨h0, by omega⟩, hg]
    have hfind : seek bs nm bd = some k.toNat := by
      unfold seek at hs ⊢
      refine find_less hless ?_ hs
      obtain ⟨s', hs'⟩ := hbs _ hlt
      rw [hasNm_of hs', hg]
      simp
    unfold means
    rw [hfind]
    show ((k.toNat : Nat) : Int) = k
    omega
  · rw [if_neg (by omega)]
    have hs : seek bs nm bd = none := by
      have h1 := means_neg hm (by omega)
      unfold seek at h1 ⊢
      rw [List.find?_eq_none] at h1 ⊢
      intro i hi hq
      exact h1 i hi (hless i hi hq)
    rw [means_none hs, ← hm, means_none (means_neg hm (by omega))]
end Go.Scope
/- A group's names, as a table of names; what they mean. -/
namespace Go.Scope

def findM (nm : Tx) : List (Tx × Nat) → Option Nat
  | [] => none
  | (a, i) :: l => if (nm == a) = true then some i else findM nm l
def setM (nm : Tx) (k : Nat) : List (Tx × Nat) → List (Tx × Nat)
  | [] => [(nm, k)]
  | (a, i) :: l => if (nm == a) = true then (a, k) :: l else (a, i) :: setM nm k l
theorem find_set (nm : Tx) (k : Nat) (n : Tx) : ∀ (l : List (Tx × Nat)), findM n (setM nm k l) = if n = nm then some k else findM n l
  | [] => by
    simp only [setM, findM]
    by_cases h : n = nm
    · simp [h]
    · simp [h]
  | (a, i) :: l => by
    simp only [setM]
    by_cases h : nm = a
    · subst h
      rw [if_pos (by simp)]
      simp only [findM]
      by_cases h2 : n = nm
      · simp [h2]
      · simp [h2]
    · rw [if_neg (by simpa using h)]
      simp only [findM]
      by_cases h2 : n = a
      · subst h2
        rw [if_pos (by simp), if_neg (fun e => h e.symm), if_pos (by simp)]
      · rw [if_neg (by simpa using h2), find_set nm k n l, if_neg (show ¬ (n == a) = true by simpa using h2)]
/-- A group's names. -/
def MapOk (l : List (Tx × Nat)) (bs : List (Tx × Sp)) (g : List Nat) : Prop := ∀ nm, findM nm l = seek bs nm g
theorem mapOk_nil (bs : List (Tx × Sp)) : MapOk [] bs [] := fun _ => rfl
theorem seek_app (bs : List (Tx × Sp)) (nm : Tx) (g h : List Nat) : seek bs nm (g ++ h) = (seek bs nm h).or (seek bs nm g) := by
  unfold seek
  rw [List.reverse_append, List.find?_append]
theorem seek_ext {bs : List (Tx × Sp)} (x : List (Tx × Sp)) {nm : Tx} {g : List Nat} (h : ∀ i ∈ g, i < bs.length) : seek (bs ++ x) nm g = seek bs nm g :=
  seek_bs fun i hi => by
    unfold hasNm
    rw [List.getElem?_append_left (h i hi)]
theorem seek_one (bs : List (Tx × Sp)) (nm n : Tx) (sp : Sp) : seek (bs ++ [(nm, sp)]) n [bs.length] = if n = nm then some bs.length else none := by
  unfold seek
  rw [List.reverse_singleton, List.find?_cons, hasNm_of (n := nm) (s := sp) (by simp)]
  by_cases h : n = nm
  · rw [if_pos h, h]; simp
  · rw [if_neg h, beq_eq_false_iff_ne.2 (fun e => h e.symm)]; rfl
theorem mapOk_set {l : List (Tx × Nat)} {bs : List (Tx × Sp)} {g : List Nat} (h : MapOk l bs g) (hg : ∀ i ∈ g, i < bs.length) (nm : Tx) (sp : Sp) : MapOk (setM nm bs.length l) (bs ++ [(nm, sp)]) (g ++ [bs.length]) := fun n => by
  rw [find_set, seek_app, seek_one, seek_ext _ hg, h n]
  split <;> rfl
/-- A group's binders. -/
def gr (fr n : Nat) : List Nat := List.range' fr (n - fr)
theorem gr_lt {fr n i : Nat} (h : i ∈ gr fr n) : i < n := by
  unfold gr at h
  rw [List.mem_range'_1] at h
  omega
theorem gr_nil (fr : Nat) : gr fr fr = [] := by unfold gr; simp
theorem gr_succ {fr n : Nat} (h : fr ≤ n) : gr fr (n + 1) = gr fr n ++ [n] := by
  unfold gr
  rw [show n + 1 - fr = (n - fr) + 1 by omega, List.range'_concat]
  simp; omega
theorem any_gr (bs : List (Tx × Sp)) (nm : Tx) : ∀ (k fr : Nat), fr + k = bs.length → (List.range' fr k).any (hasNm bs nm) = (bs.drop fr).any fun b => b.1 == nm
  | 0, fr, h => by rw [List.drop_eq_nil_of_le (by omega)]; rfl
  | k + 1, fr, h => by
    have hlt : fr < bs.length := by omega
    rw [List.range'_succ, List.any_cons, any_gr bs nm k (fr + 1) (by omega), List.drop_eq_getElem_cons hlt, List.any_cons, hasNm_of (n := bs[fr].1) (s := bs[fr].2) (List.getElem?_eq_getElem hlt)]
theorem seek_gr (bs : List (Tx × Sp)) (nm : Tx) {fr : Nat} (h : fr ≤ bs.length) : (seek bs nm (gr fr bs.length)).isSome = (bs.drop fr).any fun b => b.1 == nm := by
  unfold seek gr
  rw [← any_gr bs nm (bs.length - fr) fr (by omega), Bool.eq_iff_iff, List.find?_isSome]
  simp
/-! What is bound does not tell on the table. -/
theorem grps_tab (fr : Nat) : ∀ (n : Nat), (∀ (p : Pat) t b c, SizeOf.sizeOf p < n → (grp fr p t b).1 = (grp fr p t c).1) ∧ (∀ (ps : List Pat) t b c, SizeOf.sizeOf ps < n → (grps fr ps t b).1 = (grps fr ps t c).1) := by
  intro n
  induction n with
  | zero => exact ⟨fun _ _ _ _ h => by omega, fun _ _ _ _ h => by omega⟩
  | succ n ih =>
    constructor
    · intro p t b c h
      cases p with
      | mk k lit sp nm ps =>
        simp only [Pat.mk.sizeOf_spec] at h
        simp only [grp]
        split
        · exact ih.2 _ _ _ _ (by omega)
        · exact ih.2 _ _ _ _ (by omega)
    · intro ps t b c h
      cases ps with
      | nil => rfl
      | cons p ps =>
        simp only [List.cons.sizeOf_spec] at h
        simp only [grps]
        rw [ih.1 p t b c (by omega)]
        exact ih.2 _ _ _ _ (by omega)
theorem binders_tab (ps : List Pat) (t : Tb) (b c : List Nat) : (binders ps t b).1 = (binders ps t c).1 := (grps_tab _ _).2 ps t b c (Nat.lt_succ_self _)
theorem gr_bind {fr : Nat} {bd0 : List Nat} (nm : Tx) (sp : Sp) (u : Tb) (b : List Nat) (hf : fr ≤ u.bs.length) (h : b = bd0 ++ gr fr u.bs.length) : b ++ [u.bs.length] = bd0 ++ gr fr (bindT fr nm sp u).bs.length := by
  have : (bindT fr nm sp u).bs.length = u.bs.length + 1 := by simp [bindT]
  rw [this, gr_succ hf, h, List.append_assoc]
theorem binders_gr (ps : List Pat) (t : Tb) (bd : List Nat) : (binders ps t bd).2 = bd ++ gr t.bs.length (binders ps t bd).1.bs.length :=
  binders_inv (I := fun u b => b = bd ++ gr t.bs.length u.bs.length) (fun nm sp u b hf hb => gr_bind nm sp u b hf hb) (by rw [gr_nil, List.append_nil])
end Go.Scope
/- How many binders and uses there are at most. -/
namespace Go.Scope

mutual
def nP : Pat → Nat
  | .mk _ _ _ _ ps => 1 + nPs ps
def nPs : List Pat → Nat
  | [] => 0
  | p :: ps => nP p + nPs ps
end
mutual
def nE : Exr → Nat
  | .mk _ _ _ _ ps ls => 1 + nPs ps + nEs ls
def nEs : List Exr → Nat
  | [] => 0
  | e :: l => nE e + nEs l
end
def nDs : List Bd → Nat
  | [] => 0
  | d :: l => nPs d.ps + nE d.body + nDs l
/-- How much a table holds. -/
def wt (t : Tb) : Nat := t.bs.length + t.us.length + t.tw.length
theorem wt_bind (fr : Nat) (nm : Tx) (sp : Sp) (t : Tb) : wt (bindT fr nm sp t) ≤ wt t + 2 := by
  unfold wt bindT
  dsimp only
  split <;> simp <;> omega
theorem wt_grp (fr : Nat) : ∀ (n : Nat), (∀ (p : Pat) t b, SizeOf.sizeOf p < n → wt (grp fr p t b).1 ≤ wt t + 2 * nP p) ∧ (∀ (ps : List Pat) t b, SizeOf.sizeOf ps < n → wt (grps fr ps t b).1 ≤ wt t + 2 * nPs ps) := by
  intro n
  induction n with
  | zero => exact ⟨fun _ _ _ h => by omega, fun _ _ _ h => by omega⟩
  | succ n ih =>
    constructor
    · intro p t b h
      cases p with
      | mk k lit sp nm ps =>
        simp only [Pat.mk.sizeOf_spec] at h
        simp only [grp, nP]
        split
        · have h1 := ih.2 ps (bindT fr nm sp t) (b ++ [t.bs.length]) (by omega)
          have h2 := wt_bind fr nm sp t
          omega
        · have h1 := ih.2 ps t b (by omega)
          omega
    · intro ps t b h
      cases ps with
      | nil => simp only [grps, nPs]; omega
      | cons p ps =>
        simp only [List.cons.sizeOf_spec] at h
        simp only [grps, nPs]
        have h1 := ih.1 p t b (by omega)
        have h2 := ih.2 ps (grp fr p t b).1 (grp fr p t b).2 (by omega)
        omega
theorem wt_binders (ps : List Pat) (t : Tb) (b : List Nat) : wt (binders ps t b).1 ≤ wt t + 2 * nPs ps := (wt_grp _ _).2 ps t b (Nat.lt_succ_self _)
theorem nPs_app : ∀ (l m : List Pat), nPs (l ++ m) = nPs l + nPs m
  | [], m => by simp [nPs]
  | p :: l, m => by simp only [List.cons_append, nPs, nPs_app l m]; omega
theorem wt_two (rc : Bool) (ps : List Pat) (t : Tb) (b : List Nat) : wt (two rc ps t b).1 ≤ wt t + 2 * nPs ps := by
  unfold two
  dsimp only
  have h1 := wt_binders (ps.take 1) t b
  have h2 := wt_binders (ps.drop 1) (binders (ps.take 1) t b).1 (if rc = true then (binders (ps.take 1) t b).2 else b)
  have h3 := nPs_app (ps.take 1) (ps.drop 1)
  rw [List.take_append_drop] at h3
  omega
theorem wt_alls : ∀ (ps : List Pat) (t : Tb) (b : List Nat), wt (alls ps t b) ≤ wt t + 2 * nPs ps
  | [], t, b => by simp only [alls, nPs]; omega
  | p :: ps, t, b => by
    simp only [alls, nPs]
    have h1 := wt_binders [p] t b
    have h2 := wt_alls ps (binders [p] t b).1 b
    simp only [nPs] at h1
    omega
theorem wt_expr : ∀ (n : Nat), (∀ (e : Exr) t b, SizeOf.sizeOf e < n → wt (expr e t b) ≤ wt t + 2 * nE e) ∧ (∀ (l : List Exr) t b, SizeOf.sizeOf l < n → wt (exprs l t b) ≤ wt t + 2 * nEs l) ∧
    (∀ (l : List Exr) ps t b, SizeOf.sizeOf l < n → wt (armsA l ps t b) ≤ wt t + 2 * nPs ps + 2 * nEs l) := by
  intro n
  induction n with
  | zero => exact ⟨fun _ _ _ h => by omega, fun _ _ _ h => by omega, fun _ _ _ _ h => by omega⟩
  | succ n ih =>
    refine ⟨?_, ?_, ?_⟩
    · intro e t b h
      cases e with
      | mk k sp rc nm ps ls =>
        simp only [Exr.mk.sizeOf_spec] at h
        simp only [expr, nE]
        split
        · have h1 := wt_binders ps t b
          have h2 := ih.2.1 ls (binders ps t b).1 (binders ps t b).2 (by omega)
          omega
        split
        · have h1 := wt_two rc ps t b
          cases ls with
          | nil => simp only [letA, nEs]; omega
          | cons a r =>
            simp only [List.cons.sizeOf_spec] at h
            simp only [letA, nEs]
            have h2 := ih.1 a (two rc ps t b).1 (two rc ps t b).2.2 (by omega)
            have h3 := ih.2.1 r (expr a (two rc ps t b).1 (two rc ps t b).2.2) (two rc ps t b).2.1 (by omega)
            omega
        split
        · cases ls with
          | nil => simp only [matchA, nEs]; have := wt_alls ps t b; omega
          | cons a r =>
            simp only [List.cons.sizeOf_spec] at h
            simp only [matchA, nEs]
            have h2 := ih.1 a t b (by omega)
            have h3 := ih.2.2 r ps (expr a t b) b (by omega)
            omega
        · split
          · have h1 : wt (useT nm sp t b) = wt t + 1 := by simp only [wt, useT, List.length_append, List.length_cons, List.length_nil]; omega
            have h2 := ih.2.1 ls (useT nm sp t b) b (by omega)
            omega
          · have h2 := ih.2.1 ls t b (by omega)
            omega
    · intro l t b h
      cases l with
      | nil => simp only [exprs, nEs]; omega
      | cons a r =>
        simp only [List.cons.sizeOf_spec] at h
        simp only [exprs, nEs]
        have h2 := ih.1 a t b (by omega)
        have h3 := ih.2.1 r (expr a t b) b (by omega)
        omega
    · intro l ps t b h
      cases l with
      | nil => simp only [armsA, nEs]; have := wt_alls ps t b; omega
      | cons a r =>
        simp only [List.cons.sizeOf_spec] at h
        cases ps with
        | nil =>
          simp only [armsA, nEs, nPs]
          have h2 := ih.1 a t b (by omega)
          have h3 := ih.2.2 r [] (expr a t b) b (by omega)
          simp only [nPs] at h3
          omega
        | cons p ps =>
          simp only [armsA, nEs, nPs]
          have h1 := wt_binders [p] t b
          simp only [nPs] at h1
          have h2 := ih.1 a (binders [p] t b).1 (binders [p] t b).2 (by omega)
          have h3 := ih.2.2 r ps (expr a (binders [p] t b).1 (binders [p] t b).2) b (by omega)
          omega
theorem wt_decls : ∀ (l : List Bd) (t : Tb) (row : List Nat), wt (decls l t row) ≤ wt t + 2 * nDs l
  | [], t, row => by simp only [decls, nDs]; omega
  | d :: l, t, row => by
    simp only [decls, nDs]
    have h1 := wt_two d.rc d.ps t row
    have h2 := (wt_expr _).1 d.body (two d.rc d.ps t row).1 (two d.rc d.ps t row).2.2 (Nat.lt_succ_self _)
    have h3 := wt_decls l (expr d.body (two d.rc d.ps t row).1 (two d.rc d.ps t row).2.2) (two d.rc d.ps t row).2.1
    omega
theorem wt_of (l : List Bd) : wt (ofS l) ≤ 2 * nDs l := by
  have := wt_decls l Tb.none []
  have h : wt Tb.none = 0 := rfl
  unfold ofS
  omega
theorem nDs_app : ∀ (l m : List Bd), nDs (l ++ m) = nDs l + nDs m
  | [], m => by simp [nDs]
  | p :: l, m => by simp only [List.cons_append, nDs, nDs_app l m]; omega
end Go.Scope
