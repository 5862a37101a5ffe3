/-
  A part of the proof.
-/
import Derived.Test.YtkknkhniadiapaaDoorVmBB
import Derived.Below
import Derived.ChangeSame
namespace Go.VM
open Go.RowKit Go.ChangeShapes
def isInt : AV → Bool
  | .int _ _ => true
  | _ => false
def intV : AV → Value
  | .int k z => .int k z
  | _ => .nilIface
def tables (G : Nat → Option (List AV)) : Gh := ⟨fun b o => (G b).bind fun cs => (cs[o]?).map intV, fun _ => none, fun _ => none, False⟩
theorem isInt_R {g : Gh} {v : AV} (h : isInt v = true) : R g v (intV v) ∧ (intV v).oneCell' = true ∧ bare v = true := by
  cases v <;> simp [isInt] at h
  simp [intV, R, Value.oneCell', bare]
theorem bares_ints : ∀ {cs : List AV}, cs.all isInt = true → bares cs = true
  | [], _ => rfl
  | v :: cs, h => by
    simp only [List.all_cons, Bool.and_eq_true] at h
    show (bare v && bares cs) = true
    simp [(isInt_R (g := ⟨fun _ _ => none, fun _ => none, fun _ => none, False⟩) h.1).2.2, bares_ints h.2]
theorem post_of_below {H : Type} {enc : TypeId × Value → H} {P : Program} {f : Func} {s : ChangeSpec} {apart fresh handsOn again : Bool} {W W' : World} {args : Array Value} {v : Value} {ds gs : List (DataW H)} {before pa pv : List MemPlace}
    (hW : DataW.Whole enc P f.params.toList s.vars apart W args.toList ds gs before)
    (hres : ∀ (b : Nat) (sp : Nat → Bool) (hd : Bool), DataW.TrodAll enc P W' b sp hd f.resultTypes.toList (v.resultList f.resultTypes.size) (s.fn H (ds ++ gs)).results [])
    (hargs : ∀ sp : Nat → Bool, (∀ p ∈ before, sp p.block = true) → DataW.TrodAll enc P W' 0 sp true f.params.toList args.toList (s.fn H (ds ++ gs)).args pa)
    (hvars : ∀ sp : Nat → Bool, (∀ p ∈ before, sp p.block = true) → DataW.TrodVars enc P W' sp s.vars (s.fn H (ds ++ gs)).vars pv)
    (hps : before = pa ++ pv) (hB : Below W.heap.size W W')
    (hok : ∀ (j : Nat) (t : TypeId) (r : Value), f.resultTypes[j]? = some t → (v.resultList f.resultTypes.size)[j]? = some r → Value.okWide P W' .any 0 t r) :
    s.post enc P f apart fresh handsOn again W args v W' := by
  have hold : ∀ p ∈ before, (fun b => decide (b < W.heap.size)) p.block = true := fun p hp => by simpa using hW.lt p hp
  refine ⟨ds, gs, before, [], pa, pv, hW, hres _ _ _, hargs _ hold, hvars _ hold, World.keptBut_mono (fun p hp => ⟨hp, ?_⟩) (hB.frame (· ∈ before)), fun _ => ?_⟩
  · rw [hps, List.mem_append] at hp
    exact Or.inr hp
  · have hlt := hW.lt
    obtain ⟨_, _, _, _, _, hz, hn⟩ := hW
    refine ⟨hok, _, _, ([] ++ pa) ++ pv, ⟨[] ++ pa, pv, trodAll_append (hargs _ (fun _ _ => rfl)) (hres _ _ _), hvars _ (fun _ _ => rfl), rfl, ?_, ?_⟩, ?_⟩
    · intro b off hp
      have hm : MemPlace.cell b off ∈ before := by rw [hps]; simpa using hp
      rw [hB.frozen (p := ⟨b, off, none⟩) (hlt _ hm)]
      exact hz b off hm
    · intro ha
      have := hn ha
      rw [hps] at this
      simpa using this
    · intro p hp _
      rw [hps]
      simpa using hp
structure TabsAny (G : Nat → Option (List AV)) (w : World) : Prop where
  bare : ∀ b cs, G b = some cs → bares cs = true
  cell : ∀ b cs o v, G b = some cs → cs[o]? = some v → ∃ x, w.cell? ⟨b, o, none⟩ = some x ∧ x.oneCell' = true ∧ ∀ g, R g v x
def TabQ (w : World) (b : Nat) (cs : List AV) : Prop := bares cs = true ∧ ∀ o v, cs[o]? = some v → ∃ x, w.cell? ⟨b, o, none⟩ = some x ∧ x.oneCell' = true ∧ ∀ g, R g v x
theorem intTab {w : World} {b : Nat} {cs : List AV} (h1 : cs.all isInt = true) (h2 : ∀ o v, cs[o]? = some v → w.cell? ⟨b, o, none⟩ = some (intV v)) : ∀ x, some cs = some x → TabQ w b x := fun x hx => by
  cases hx
  refine ⟨bares_ints h1, fun o v hv => ?_⟩
  have hi : isInt v = true := List.all_eq_true.1 h1 v (List.mem_of_getElem? hv)
  exact ⟨intV v, h2 o v hv, (isInt_R (g := ⟨fun _ _ => none, fun _ => none, fun _ => none, False⟩) hi).2.1, fun g => (isInt_R hi).1⟩
theorem noTabQ {w : World} {b : Nat} : ∀ x, none = some x → TabQ w b x := fun _ h => by cases h
theorem tabsAny {t : Tr (List AV)} {w : World} (h : Tr.Every (TabQ w) t) : TabsAny (fun b => t.get b) w := ⟨fun b cs hb => (Tr.every_get t _ h b cs hb).1, fun b cs o v hb hv => (Tr.every_get t _ h b cs hb).2 o v hv⟩
end Go.VM
namespace Go.VM
def markG (G : Nat → Option (List AV)) : Nat → Option (List AV) := fun b => match b.beq 1000003 with
  | true => some []
  | false => G b
theorem tabsMark {G : Nat → Option (List AV)} {w : World} (h : TabsAny G w) : TabsAny (markG G) w := by
  have k : ∀ b cs, markG G b = some cs → cs = [] ∨ G b = some cs := fun b cs hb => by
    unfold markG at hb
    cases e : b.beq 1000003 with
    | true => rw [e] at hb; cases hb; exact .inl rfl
    | false => rw [e] at hb; exact .inr hb
  refine ⟨fun b cs hb => ?_, fun b cs o v hb hv => ?_⟩
  · rcases k b cs hb with rfl | hb
    · rfl
    · exact h.bare b cs hb
  · rcases k b cs hb with rfl | hb
    · simp at hv
    · exact h.cell b cs o v hb hv
end Go.VM
namespace Go.VM
open Go.RowKit Go.ChangeShapes
def oldGh (w : World) : Gh where
  F b o := w.cell? ⟨b, o, none⟩
  M b := match w.heap[b]? with
    | some (.map ents clk) => some (ents.toList, clk)
    | _ => none
  E := fun _ => none
  C := False
theorem old_inv {T : TT} (w : World) : Inv T (fun b => w.heap.size ≤ b) (oldGh w) St.empty w where
  F b o v hv := hv
  M b ents clk hm := by
    simp only [oldGh] at hm
    split at hm
    · rename_i e c hh
      simp only [Option.some.injEq, Prod.mk.injEq] at hm
      obtain ⟨rfl, rfl⟩ := hm
      simpa using hh
    · cases hm
  E := fun _ _ => rfl
  H id o ho := absurd ho St.get_empty
  D id id' o o' b h1 := absurd h1 St.get_empty
  own id o b h1 := absurd h1 St.get_empty
  up b hb := hb
  C c := c.elim
theorem old_GR {G : Nat → Option (List AV)} {w : World} (h : TabsAny G w) : GR (oldGh w) G := by
  intro k cs hk
  refine ⟨h.bare k cs hk, ?_, fun _ c => c⟩
  have all : ∀ (l : List AV) (o : Nat), (∀ i v, l[i]? = some v → ∃ x, w.cell? ⟨k, o + i, none⟩ = some x ∧ x.oneCell' = true ∧ ∀ g, R g v x) → RAt (oldGh w) l k o := by
    intro l
    induction l with
    | nil => intro o _; simp only [RAt]
    | cons v l ih =>
      intro o h2
      simp only [RAt]
      obtain ⟨x, r1, r2, r3⟩ := h2 0 v rfl
      refine ⟨⟨x, r1, r2, r3 _⟩, ih (o + 1) fun i u hu => ?_⟩
      have := h2 (i + 1) u (by simpa using hu)
      rwa [show o + (i + 1) = o + 1 + i by omega] at this
  exact all cs 0 fun i v hv => by
    have := h.cell k cs i v hk hv
    rwa [Nat.zero_add]
theorem closedArgs {P : Program} {E : Env} (hE : EnvOk P E) {n : Nat} {f : FuncId} {args : List AV} {v : AV} (hrun : (caller E n).bare f args = .ok v)
    (hcall : ∀ args w, (callFunc f args).run P w = .ok (.enter f args) w) {w : World} (hG : TabsAny E.G w) {xs : Array Value} (hb : bares args = true) (hr : RL (oldGh w) args xs.toList) :
    Calls P f xs w fun e w' => ∃ x g, e = .returned x ∧ R g v x ∧ Below w.heap.size w w' := by
  have h := (caller_ok hE n).1.bare f args v hrun (fun b => w.heap.size ≤ b) (oldGh w) St.empty w xs.toList (old_GR hG) hb hr (old_inv w)
  rcases h with ⟨x, w', h1, _⟩ | ⟨_, h2⟩
  · rw [hcall] at h1; cases h1
  · refine h2.mono ?_
    rintro e w' ⟨x, rfl, g', r, _, k⟩
    exact ⟨x, g', rfl, r, ⟨k.rest.1, k.rest.2.1, k.rest.2.2, k.size, fun b hb => k.heap b (by omega)⟩⟩
end Go.VM
