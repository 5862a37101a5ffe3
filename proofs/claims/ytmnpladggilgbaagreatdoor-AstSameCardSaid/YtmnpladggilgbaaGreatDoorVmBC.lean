/-
  A part of the proof.
-/
import Derived.Test.YtmnpladggilgbaaGreatDoorVmBB
import Derived.Below
import Derived.ChangeSame
/- From a run of the value machine to what a row asks. -/
namespace Go.VM
open Go.RowKit Go.ChangeShapes
def isInt : AV → Bool
  | .int _ _ => true
  | _ => false
def intV : AV → Value
  | .int k z => .int k z
  | _ => .nilIface
/-- What is known when a call begins: the tables. -/
def tables (G : Nat → Option (List AV)) : Gh := ⟨fun b o => (G b).bind fun cs => (cs[o]?).map intV, fun _ => none, fun _ => none, False⟩
structure TabsOk (G : Nat → Option (List AV)) (w : World) : Prop where
  ints : ∀ b cs, G b = some cs → cs.all isInt = true
  cell : ∀ b cs o v, G b = some cs → cs[o]? = some v → w.cell? ⟨b, o, none⟩ = some (intV v)
theorem isInt_R {g : Gh} {v : AV} (h : isInt v = true) : R g v (intV v) ∧ (intV v).oneCell' = true ∧ bare v = true := by
  cases v <;> simp [isInt] at h
  simp [intV, R, Value.oneCell', bare]
theorem bares_ints : ∀ {cs : List AV}, cs.all isInt = true → bares cs = true
  | [], _ => rfl
  | v :: cs, h => by
    simp only [List.all_cons, Bool.and_eq_true] at h
    show (bare v && bares cs) = true
    simp [(isInt_R (g := ⟨fun _ _ => none, fun _ => none, fun _ => none, False⟩) h.1).2.2, bares_ints h.2]
theorem tables_inv {G : Nat → Option (List AV)} {T : TT} {w : World} (h : TabsOk G w) : Inv T (fun b => w.heap.size ≤ b) (tables G) St.empty w where
  F b o v hv := by
    simp only [tables] at hv
    obtain ⟨cs, h1, h2⟩ := Option.bind_eq_some_iff.1 hv
    obtain ⟨u, h3, rfl⟩ := Option.map_eq_some_iff.1 h2
    exact h.cell b cs o u h1 h3
  M b ents clk hm := by cases hm
  E := fun _ _ => rfl
  H id o ho := absurd ho St.get_empty
  D id id' o o' b h1 := absurd h1 St.get_empty
  own id o b h1 := absurd h1 St.get_empty
  up b hb := hb
  C c := c.elim
theorem tables_GR {G : Nat → Option (List AV)} {w : World} (h : TabsOk G w) : GR (tables G) G := by
  intro k cs hk
  refine ⟨bares_ints (h.ints k cs hk), ?_, fun _ c => c⟩
  have all : ∀ (l : List AV) (o : Nat), l.all isInt = true → (∀ i v, l[i]? = some v → (tables G).F k (o + i) = some (intV v)) → RAt (tables G) l k o := by
    intro l
    induction l with
    | nil => intro o _ _; simp only [RAt]
    | cons v l ih =>
      intro o h1 h2
      simp only [List.all_cons, Bool.and_eq_true] at h1
      simp only [RAt]
      have r := isInt_R (g := tables G) h1.1
      refine ⟨⟨intV v, by have := h2 0 v rfl; simpa using this, r.2.1, r.1⟩, ih (o + 1) h1.2 fun i u hu => ?_⟩
      have := h2 (i + 1) u (by simpa using hu)
      rwa [show o + (i + 1) = o + 1 + i by omega] at this
  refine all cs 0 (h.ints k cs hk) fun i v hv => ?_
  simp only [tables, hk, Option.bind_some, Nat.zero_add, hv, Option.map_some]
theorem closed {P : Program} {E : Env} (hE : EnvOk P E) {n : Nat} {f : FuncId} {v : AV} (hrun : (caller E n).bare f [] = .ok v)
    (hcall : ∀ args w, (callFunc f args).run P w = .ok (.enter f args) w) {w : World} (hG : TabsOk E.G w) :
    Calls P f #[] w fun e w' => ∃ x g, e = .returned x ∧ R g v x ∧ Below w.heap.size w w' := by
  have h := (caller_ok hE n).1.bare f [] v hrun (fun b => w.heap.size ≤ b) (tables E.G) St.empty w [] (tables_GR hG) rfl (by simp only [RL]) (tables_inv hG)
  rcases h with ⟨x, w', h1, _⟩ | ⟨_, h2⟩
  · rw [hcall] at h1; cases h1
  · refine h2.mono ?_
    rintro e w' ⟨x, rfl, g', r, _, k⟩
    exact ⟨x, g', rfl, r, ⟨k.rest.1, k.rest.2.1, k.rest.2.2, k.size, fun b hb => k.heap b (by omega)⟩⟩
/-- As 'post_of_same', where new memory may be anything. -/
theorem post_of_below {H : Type} {enc : TypeId × Value → H} {P : Program} {f : Func} {s : ChangeSpec} {apart fresh handsOn again : Bool} {W W' : World} {args : Array Value} {v : Value} {ds gs : List (DataW H)} {before pa pv : List MemPlace}
    (hW : DataW.Whole enc P f.params.toList s.vars apart W args.toList ds gs before)
    (hres : ∀ (b : Nat) (sp : Nat → Bool) (hd : Bool), DataW.TrodAll enc P W' b sp hd f.resultTypes.toList (v.resultList f.resultTypes.size) (s.fn H (ds ++ gs)).results [])
    (hargs : ∀ sp : Nat → Bool, (∀ p ∈ before, sp p.block = true) → DataW.TrodAll enc P W' 0 sp true f.params.toList args.toList (s.fn H (ds ++ gs)).args pa)
    (hvars : ∀ sp : Nat → Bool, (∀ p ∈ before, sp p.block = true) → DataW.TrodVars enc P W' sp s.vars (s.fn H (ds ++ gs)).vars pv)
    (hps : before = pa ++ pv) (hB : Below W.heap.size W W')
    (hok : ∀ (j : Nat) (t : TypeId) (r : Value), f.resultTypes[j]? = some t → (v.resultList f.resultTypes.size)[j]? = some r → Value.okWide P W' .any 0 t r) :
    s.post enc P f apart fresh handsOn again W args v W' := by
  have hold : ∀ p ∈ before, (fun b => decide (b < W.heap.size)) p.block = true := fun p hp => by simpa using hW.lt p hp
  refine ⟨ds, gs, before, [], pa, pv, hW, hres _ _ _, hargs _ hold, hvars _ hold, World.keptBut_mono (fun p hp => ⟨hp, ?_⟩) (hB.frame (· ∈ before)), fun _ => ?_⟩
  · rw [hps, List.mem_append] at hp
    exact Or.inr hp
  · have hlt := hW.lt
    obtain ⟨_, _, _, _, _, hz, hn⟩ := hW
    refine ⟨hok, _, _, ([] ++ pa) ++ pv, ⟨[] ++ pa, pv, trodAll_append (hargs _ (fun _ _ => rfl)) (hres _ _ _), hvars _ (fun _ _ => rfl), rfl, ?_, ?_⟩, ?_⟩
    · intro b off hp
      have hm : MemPlace.cell b off ∈ before := by rw [hps]; simpa using hp
      rw [hB.frozen (p := ⟨b, off, none⟩) (hlt _ hm)]
      exact hz b off hm
    · intro ha
      have := hn ha
      rw [hps] at this
      simpa using this
    · intro p hp _
      rw [hps]
      simpa using hp
/-- What is known of tables, where all that lies there is known. -/
structure TabsAny (G : Nat → Option (List AV)) (w : World) : Prop where
  bare : ∀ b cs, G b = some cs → bares cs = true
  cell : ∀ b cs o v, G b = some cs → cs[o]? = some v → ∃ x, w.cell? ⟨b, o, none⟩ = some x ∧ x.oneCell' = true ∧ ∀ g, R g v x
theorem TabsOk.any {G : Nat → Option (List AV)} {w : World} (h : TabsOk G w) : TabsAny G w :=
  ⟨fun b cs hb => bares_ints (h.ints b cs hb), fun b cs o v hb hv => by
    have hi : isInt v = true := List.all_eq_true.1 (h.ints b cs hb) v (List.mem_of_getElem? hv)
    exact ⟨intV v, h.cell b cs o v hb hv, (isInt_R (g := ⟨fun _ _ => none, fun _ => none, fun _ => none, False⟩) hi).2.1, fun g => (isInt_R hi).1⟩⟩
def TabQ (w : World) (b : Nat) (cs : List AV) : Prop := bares cs = true ∧ ∀ o v, cs[o]? = some v → ∃ x, w.cell? ⟨b, o, none⟩ = some x ∧ x.oneCell' = true ∧ ∀ g, R g v x
theorem intTab {w : World} {b : Nat} {cs : List AV} (h1 : cs.all isInt = true) (h2 : ∀ o v, cs[o]? = some v → w.cell? ⟨b, o, none⟩ = some (intV v)) : ∀ x, some cs = some x → TabQ w b x := fun x hx => by
  cases hx
  refine ⟨bares_ints h1, fun o v hv => ?_⟩
  have hi : isInt v = true := List.all_eq_true.1 h1 v (List.mem_of_getElem? hv)
  exact ⟨intV v, h2 o v hv, (isInt_R (g := ⟨fun _ _ => none, fun _ => none, fun _ => none, False⟩) hi).2.1, fun g => (isInt_R hi).1⟩
/-- A variable of which it is only known that it holds an interface. -/
theorem ifTab {w : World} {b : Nat} (h : ∃ t y, w.cell? ⟨b, 0, none⟩ = some (.iface t y)) : ∀ x, some [AV.opq true] = some x → TabQ w b x := fun x hx => by
  cases hx
  refine ⟨rfl, fun o v hv => ?_⟩
  obtain ⟨t, y, h⟩ := h
  match o, hv with
  | 0, hv =>
    simp at hv
    subst hv
    exact ⟨_, h, rfl, fun g => by simp [R]⟩
theorem noTabQ {w : World} {b : Nat} : ∀ x, none = some x → TabQ w b x := fun _ h => by cases h
theorem tabsAny {t : Tr (List AV)} {w : World} (h : Tr.Every (TabQ w) t) : TabsAny (fun b => t.get b) w := ⟨fun b cs hb => (Tr.every_get t _ h b cs hb).1, fun b cs o v hb hv => (Tr.every_get t _ h b cs hb).2 o v hv⟩
end Go.VM
/- From a run of the value machine at arguments to what a row asks. -/
namespace Go.VM
open Go.RowKit Go.ChangeShapes
/-- All that lies there when a call begins is known: the call changes none of it. -/
def oldGh (w : World) : Gh where
  F b o := w.cell? ⟨b, o, none⟩
  M b := match w.heap[b]? with
    | some (.map ents clk) => some (ents.toList, clk)
    | _ => none
  E := fun _ => none
  C := False
theorem old_inv {T : TT} (w : World) : Inv T (fun b => w.heap.size ≤ b) (oldGh w) St.empty w where
  F b o v hv := hv
  M b ents clk hm := by
    simp only [oldGh] at hm
    split at hm
    · rename_i e c hh
      simp only [Option.some.injEq, Prod.mk.injEq] at hm
      obtain ⟨rfl, rfl⟩ := hm
      simpa using hh
    · cases hm
  E := fun _ _ => rfl
  H id o ho := absurd ho St.get_empty
  D id id' o o' b h1 := absurd h1 St.get_empty
  own id o b h1 := absurd h1 St.get_empty
  up b hb := hb
  C c := c.elim
theorem old_GR {G : Nat → Option (List AV)} {w : World} (h : TabsAny G w) : GR (oldGh w) G := by
  intro k cs hk
  refine ⟨h.bare k cs hk, ?_, fun _ c => c⟩
  have all : ∀ (l : List AV) (o : Nat), (∀ i v, l[i]? = some v → ∃ x, w.cell? ⟨k, o + i, none⟩ = some x ∧ x.oneCell' = true ∧ ∀ g, R g v x) → RAt (oldGh w) l k o := by
    intro l
    induction l with
    | nil => intro o _; simp only [RAt]
    | cons v l ih =>
      intro o h2
      simp only [RAt]
      obtain ⟨x, r1, r2, r3⟩ := h2 0 v rfl
      refine ⟨⟨x, r1, r2, r3 _⟩, ih (o + 1) fun i u hu => ?_⟩
      have := h2 (i + 1) u (by simpa using hu)
      rwa [show o + (i + 1) = o + 1 + i by omega] at this
  exact all cs 0 fun i v hv => by
    have := h.cell k cs i v hk hv
    rwa [Nat.zero_add]
theorem closedArgs {P : Program} {E : Env} (hE : EnvOk P E) {n : Nat} {f : FuncId} {args : List AV} {v : AV} (hrun : (caller E n).bare f args = .ok v)
    (hcall : ∀ args w, (callFunc f args).run P w = .ok (.enter f args) w) {w : World} (hG : TabsAny E.G w) {xs : Array Value} (hb : bares args = true) (hr : RL (oldGh w) args xs.toList) :
    Calls P f xs w fun e w' => ∃ x g, e = .returned x ∧ R g v x ∧ Below w.heap.size w w' := by
  have h := (caller_ok hE n).1.bare f args v hrun (fun b => w.heap.size ≤ b) (oldGh w) St.empty w xs.toList (old_GR hG) hb hr (old_inv w)
  rcases h with ⟨x, w', h1, _⟩ | ⟨_, h2⟩
  · rw [hcall] at h1; cases h1
  · refine h2.mono ?_
    rintro e w' ⟨x, rfl, g', r, _, k⟩
    exact ⟨x, g', rfl, r, ⟨k.rest.1, k.rest.2.1, k.rest.2.2, k.size, fun b hb => k.heap b (by omega)⟩⟩
end Go.VM
/- A call whose result lies in memory of its own, which may be written. -/
namespace Go.VM
open Go.RowKit Go.ChangeShapes
/-- What is known of a result in memory of its own: its cells stand there; they lie in new memory, and no string shares them, or else in a table. -/
structure Fresh (G : Nat → Option (List AV)) (n : Nat) (g : Gh) (w : World) : Prop where
  le : LeF g (oldGh w)
  soft : ∀ b o v, n ≤ b → g.F b o = some v → w.frozen? ⟨b, o, none⟩ = false
  tab : ∀ b o v, b < n → g.F b o = some v → ∃ cs, G b = some cs ∧ o < cs.length
end Go.VM
/- What a call handed back, written over: what stays as it is. -/
namespace Go.VM
open Go.RowKit
/-- Worlds that are alike but for cells of some blocks. -/
structure Chg (lo hi : Nat) (w w' : World) : Prop where
  size : w.heap.size ≤ w'.heap.size
  heap : ∀ (b : Nat), b < w.heap.size → b < lo ∨ hi ≤ b → w'.heap[b]? = w.heap[b]?
  map : ∀ (b : Nat) es c, w.heap[b]? = some (.map es c) → w'.heap[b]? = some (.map es c)
  rest : w'.os = w.os ∧ w'.tape = w.tape ∧ w'.output = w.output
theorem Chg.refl {lo hi : Nat} (w : World) : Chg lo hi w w := ⟨Nat.le_refl _, fun _ _ _ => rfl, fun _ _ _ h => h, rfl, rfl, rfl⟩
theorem Chg.trans {lo hi : Nat} {w w1 w2 : World} (h : Chg lo hi w w1) (k : Chg lo hi w1 w2) : Chg lo hi w w2 :=
  ⟨Nat.le_trans h.size k.size, fun b hl hb => (k.heap b (Nat.lt_of_lt_of_le hl h.size) hb).trans (h.heap b hl hb), fun b es c hm => k.map b es c (h.map b es c hm), k.rest.1.trans h.rest.1, k.rest.2.1.trans h.rest.2.1, k.rest.2.2.trans h.rest.2.2⟩
theorem Chg.drew {lo hi : Nat} (w : World) : Chg lo hi w w.drew := ⟨Nat.le_refl _, fun _ _ _ => rfl, fun _ _ _ h => h, rfl, rfl, rfl⟩
theorem setCell_heap (w : World) (b o : Nat) (v : Value) (k : Nat) (h : k ≠ b) : (w.setCell ⟨b, o, none⟩ v).heap[k]? = w.heap[k]? := by
  simp only [World.setCell, Array.getElem?_modify]
  rw [if_neg (fun e => h e.symm)]
theorem setCell_at (w : World) (b o : Nat) (v : Value) {vs : Array Value} {ty : TypeId} {fz : Nat × Nat} (h : w.heap[b]? = some (.cells vs ty fz)) : (w.setCell ⟨b, o, none⟩ v).heap[b]? = some (.cells (vs.setIfInBounds o v) ty fz) := by
  simp only [World.setCell, Array.getElem?_modify, if_true, h, Option.map_some]
  rfl
theorem Chg.set {lo hi : Nat} (w : World) {b o : Nat} (v : Value) {u : Value} (hu : w.cell? ⟨b, o, none⟩ = some u) (hl : lo ≤ b) (hh : b < hi) : Chg lo hi w (w.setCell ⟨b, o, none⟩ v) := by
  obtain ⟨vs, ty, fz, h2, _⟩ := cells_of hu
  refine ⟨by simp [World.setCell], fun k _ hk => setCell_heap _ _ _ _ _ (by omega), fun k es c hx => ?_, rfl, rfl, rfl⟩
  by_cases e : k = b
  · subst e
    rw [h2] at hx
    cases hx
  · rw [setCell_heap _ _ _ _ _ e]; exact hx
theorem cell_set (w : World) {b o : Nat} (v : Value) {u : Value} (hu : w.cell? ⟨b, o, none⟩ = some u) (k j : Nat) :
    (w.setCell ⟨b, o, none⟩ v).cell? ⟨k, j, none⟩ = if k = b ∧ j = o then some v else w.cell? ⟨k, j, none⟩ := by
  obtain ⟨vs, ty, fz, h2, h3⟩ := cells_of hu
  by_cases e : k = b
  · subst e
    rw [cell_of (setCell_at w k o v h2), cell_of h2, Array.getElem?_setIfInBounds]
    by_cases ej : j = o
    · subst ej
      have : j < vs.size := by
        rcases Nat.lt_or_ge j vs.size with q | q
        · exact q
        · rw [Array.getElem?_eq_none q] at h3; cases h3
      rw [if_pos rfl, if_pos this, if_pos ⟨rfl, rfl⟩]
    · rw [if_neg (fun e => ej e.symm), if_neg (fun e => ej e.2)]
  · rw [if_neg (fun x => e x.1)]
    exact cell_congr (setCell_heap _ _ _ _ _ e) j
theorem frz_set (w : World) {b o : Nat} (v : Value) {u : Value} (hu : w.cell? ⟨b, o, none⟩ = some u) (k j : Nat) :
    (w.setCell ⟨b, o, none⟩ v).frozen? ⟨k, j, none⟩ = w.frozen? ⟨k, j, none⟩ := by
  obtain ⟨vs, ty, fz, h2, h3⟩ := cells_of hu
  by_cases e : k = b
  · subst e
    simp [World.frozen?, setCell_at w k o v h2, h2]
  · exact frz_congr (setCell_heap _ _ _ _ _ e) j
/-- A value of the same kind. -/
def Like (u x : Value) : Prop := x = u ∨ (∃ s s', u = .string s ∧ x = .string s') ∨ ∃ k n n', u = .int k n ∧ x = .int k n'
/-- What is left of a result while it is written over: its cells are there, no string shares them; and the slices in it stand. -/
structure LeftG (g : Gh) (lo hi : Nat) (w : World) : Prop where
  cell : ∀ b o u, lo ≤ b → g.F b o = some u → b < hi ∧ (∃ x, w.cell? ⟨b, o, none⟩ = some x ∧ Like u x) ∧ w.frozen? ⟨b, o, none⟩ = false
  keep : ∀ b o a l c, g.F b o = some (.slice a l c) → w.cell? ⟨b, o, none⟩ = some (.slice a l c)
theorem Fresh.left {G : Nat → Option (List AV)} {n : Nat} {g : Gh} {w : World} (h : Fresh G n g w) : LeftG g n w.heap.size w :=
  ⟨fun b o u hb hu => by
    have hc : w.cell? ⟨b, o, none⟩ = some u := h.le.F b o u hu
    obtain ⟨vs, ty, fz, h2, _⟩ := cells_of hc
    exact ⟨lt_of_heap h2, ⟨u, hc, .inl rfl⟩, h.soft b o u hb hu⟩, fun b o a l c hu => h.le.F b o _ hu⟩
theorem LeftG.set {g : Gh} {lo hi : Nat} {w : World} (h : LeftG g lo hi w) {b o : Nat} {u : Value} (v : Value) (hb : lo ≤ b) (hu : g.F b o = some u) (hs : ∀ a l c, u ≠ .slice a l c) (hv : Like u v) : LeftG g lo hi (w.setCell ⟨b, o, none⟩ v) ∧ Chg lo hi w (w.setCell ⟨b, o, none⟩ v) := by
  obtain ⟨h1, ⟨x, h2, _⟩, h3⟩ := h.cell b o u hb hu
  refine ⟨⟨fun k j y hk hy => ?_, fun k j a l c hy => ?_⟩, Chg.set w v h2 hb h1⟩
  · obtain ⟨q1, ⟨z, q2, q4⟩, q3⟩ := h.cell k j y hk hy
    refine ⟨q1, ?_, by rw [frz_set w v h2]; exact q3⟩
    rw [cell_set w v h2]
    split
    · rename_i e
      obtain ⟨rfl, rfl⟩ := e
      rw [hu] at hy; cases hy
      exact ⟨_, rfl, hv⟩
    · exact ⟨z, q2, q4⟩
  · rw [cell_set w v h2]
    rw [if_neg ?_]
    · exact h.keep k j a l c hy
    · rintro ⟨rfl, rfl⟩
      rw [hu] at hy
      cases hy
      exact hs _ _ _ rfl
theorem TabsAny.below {G : Nat → Option (List AV)} {w w' : World} (h : TabsAny G w) (k : Below w.heap.size w w') : TabsAny G w' :=
  ⟨h.bare, fun b cs o v hb hv => by
    obtain ⟨x, h1, h2⟩ := h.cell b cs o v hb hv
    obtain ⟨vs, ty, fz, h3, _⟩ := cells_of h1
    exact ⟨x, by rw [cell_congr (k.block b (lt_of_heap h3))]; exact h1, h2⟩⟩
/-- Tables lie in memory that there was. -/
theorem TabsAny.lt {G : Nat → Option (List AV)} {w : World} (h : TabsAny G w) {b : Nat} {cs : List AV} (hb : G b = some cs) (hne : cs ≠ []) : b < w.heap.size := by
  cases cs with
  | nil => exact absurd rfl hne
  | cons v l =>
    obtain ⟨x, h1, _⟩ := h.cell b _ 0 v hb rfl
    obtain ⟨vs, ty, fz, h3, _⟩ := cells_of h1
    exact lt_of_heap h3
theorem LeF.below {g : Gh} {w w' : World} (h : LeF g (oldGh w)) (k : Below w.heap.size w w') : LeF g (oldGh w') := by
  refine ⟨fun b o v hv => ?_, fun b e he => ?_⟩
  · have hc : w.cell? ⟨b, o, none⟩ = some v := h.F b o v hv
    obtain ⟨vs, ty, fz, h3, _⟩ := cells_of hc
    show w'.cell? ⟨b, o, none⟩ = some v
    rw [cell_congr (k.block b (lt_of_heap h3))]; exact hc
  · have hm := h.M b e he
    simp only [oldGh] at hm ⊢
    split at hm
    · rename_i ents clk hb
      rw [k.block b (lt_of_heap hb), hb]
      exact hm
    · cases hm
/-- A slice, as it lies there. -/
theorem slv {g : Gh} {z : Nat} {v : AV} {es : List AV} {x : Value} (h : IsSl z v es) (hr : R g v x) : ∃ a cap, x = .slice a es.length cap ∧ es.length ≤ cap ∧ (es ≠ [] → ∃ b o, a = some ⟨b, o, none⟩ ∧ RAtE g z es b o) := by
  rcases h.2 with ⟨h | h, h2⟩ | h | h
  · subst h; subst h2
    simp only [R] at hr
    subst hr
    exact ⟨none, 0, rfl, Nat.le_refl _, fun e => absurd rfl e⟩
  · subst h; subst h2
    simp only [R] at hr
    obtain ⟨a, rfl⟩ := hr
    exact ⟨some a, 0, rfl, Nat.le_refl _, fun e => absurd rfl e⟩
  · subst h
    simp only [R] at hr
    obtain ⟨_, b, o, cap, rfl, h2, _, h3, _⟩ := hr
    exact ⟨_, cap, rfl, h2, fun _ => ⟨b, o, rfl, h3⟩⟩
  · subst h
    simp only [R] at hr
    obtain ⟨_, b, o, cap, rfl, h2, _, h3, _⟩ := hr
    exact ⟨_, cap, rfl, h2, fun _ => ⟨b, o, rfl, h3⟩⟩
/-- What an element's cells are. -/
theorem RAtE_el {g : Gh} {z : Nat} : ∀ {es : List AV} {b o k : Nat} {v : AV}, RAtE g z es b o → es[k]? = some v → v.cells.length = z ∧ RAt g v.cells b (o + k * z)
  | [], _, _, k, _, _, hk => by simp at hk
  | e :: es, b, o, 0, v, h, hk => by
    simp at hk; subst hk
    obtain ⟨h1, h2, _⟩ := (RAtE_cons g z e es b o).1 h
    exact ⟨h1, by simpa using h2⟩
  | e :: es, b, o, k + 1, v, h, hk => by
    obtain ⟨_, _, h3⟩ := (RAtE_cons g z e es b o).1 h
    have := RAtE_el h3 (by simpa using hk)
    rw [show o + z + k * z = o + (k + 1) * z by rw [Nat.add_mul]; omega] at this
    exact this
theorem RAt_el {g : Gh} : ∀ {cs : List AV} {b o k : Nat} {v : AV}, RAt g cs b o → cs[k]? = some v → ∃ x, g.F b (o + k) = some x ∧ R g v x
  | [], _, _, k, _, _, hk => by simp at hk
  | c :: cs, b, o, 0, v, h, hk => by
    simp at hk; subst hk
    simp only [RAt] at h
    obtain ⟨⟨x, h1, _, h3⟩, _⟩ := h
    exact ⟨x, by simpa using h1, h3⟩
  | c :: cs, b, o, k + 1, v, h, hk => by
    simp only [RAt] at h
    obtain ⟨x, h1, h2⟩ := RAt_el h.2 (by simpa using hk)
    exact ⟨x, by rw [show o + (k + 1) = o + 1 + k by omega]; exact h1, h2⟩
def notStr : AV → Bool
  | .str _ => false
  | .sl .. => false
  | .nils => false
  | .es => false
  | .ms .. => false
  | .gs .. => false
  | _ => true
/-- No text and no slice stands in a table. -/
def NoTexts (G : Nat → Option (List AV)) : Prop := ∀ b cs v, G b = some cs → v ∈ cs → notStr v = true
theorem Fresh.new {G : Nat → Option (List AV)} {n : Nat} {g : Gh} {w : World} (h : Fresh G n g w) (hG : TabsAny G w) (hn : NoTexts G) {b o : Nat} {u : AV} {x : Value} (hu : notStr u = false) (hr : R g u x) (hF : g.F b o = some x) : n ≤ b := by
  refine Nat.le_of_not_lt fun hlt => ?_
  obtain ⟨cs, h1, h2⟩ := h.tab b o _ hlt hF
  obtain ⟨y, h3, _, h4⟩ := hG.cell b cs o cs[o] h1 (List.getElem?_eq_getElem h2)
  have h5 : w.cell? ⟨b, o, none⟩ = some x := h.le.F b o _ hF
  rw [h3] at h5
  cases h5
  have h6 := h4 g
  have h7 := hn b cs cs[o] h1 (List.getElem_mem h2)
  revert h6 h7
  generalize cs[o] = v
  intro h6 h7
  have hx : (∃ s, x = .string s) ∨ (∃ a l c, x = .slice a l c) := by
    cases u <;> simp [notStr] at hu
    · simp only [R] at hr; exact .inl ⟨_, hr⟩
    · simp only [R] at hr; exact .inr ⟨_, _, _, hr⟩
    · simp only [R] at hr; obtain ⟨_, b, o, c, hr, _⟩ := hr; exact .inr ⟨_, _, _, hr⟩
    · simp only [R] at hr; obtain ⟨b, o, _, c, hr, _⟩ := hr; exact .inr ⟨_, _, _, hr⟩
    · simp only [R] at hr; obtain ⟨_, b, c, _, _, hr, _⟩ := hr; exact .inr ⟨_, _, _, hr⟩
    · simp only [R] at hr; obtain ⟨a, hr⟩ := hr; exact .inr ⟨_, _, _, hr⟩
  rcases hx with ⟨s, rfl⟩ | ⟨a, l, c, rfl⟩
  · cases v <;> simp [notStr] at h7 <;> simp [R] at h6
  · cases v <;> simp [notStr] at h7 <;> simp [R] at h6
theorem LeftG.below {g : Gh} {lo hi : Nat} {w w' : World} (h : LeftG g lo hi w) (hw : LeF g (oldGh w)) (k : Below w.heap.size w w') : LeftG g lo hi w' := by
  have key : ∀ b o u, g.F b o = some u → w'.heap[b]? = w.heap[b]? := fun b o u hu => by
    have hc : w.cell? ⟨b, o, none⟩ = some u := hw.F b o u hu
    obtain ⟨vs, ty, fz, h3, _⟩ := cells_of hc
    exact k.block b (lt_of_heap h3)
  refine ⟨fun b o u hb hu => ?_, fun b o a l c hu => ?_⟩
  · obtain ⟨h1, ⟨x, h2, h4⟩, h3⟩ := h.cell b o u hb hu
    have e := key b o u hu
    exact ⟨h1, ⟨x, by rw [cell_congr e]; exact h2, h4⟩, by rw [frz_congr e]; exact h3⟩
  · rw [cell_congr (key b o _ hu)]; exact h.keep b o a l c hu
theorem Chg.below {lo hi B : Nat} {w w' : World} (h : Chg lo hi w w') (hB : B ≤ lo) (hw : B ≤ w.heap.size) : Below B w w' :=
  ⟨h.rest.1, h.rest.2.1, h.rest.2.2, h.size, fun b hb => h.heap b (by omega) (.inl (by omega))⟩
theorem Chg.of_below {lo hi : Nat} {w w' : World} (h : Below w.heap.size w w') : Chg lo hi w w' :=
  ⟨h.size, fun b hb _ => h.block b hb, fun b es c hm => by rw [h.block b (lt_of_heap hm)]; exact hm, h.os, h.tape, h.output⟩
theorem cell_lt {w : World} {b o : Nat} {v : Value} (h : w.cell? ⟨b, o, none⟩ = some v) : b < w.heap.size := by
  obtain ⟨vs, ty, fz, h3, _⟩ := cells_of h
  exact lt_of_heap h3
end Go.VM
