/-
  A part of the proof.
-/
import Derived.Test.YtkknkhniadiapaaDoorVmBC
import Derived.DataReads
import Derived.DataElems
namespace Go.VM
open Go.RowKit Go.ChangeShapes
def isSt (P : Program) (t : TypeId) : Bool :=
  match P.underlying t with
  | some (.struct _) => true
  | _ => false
def mkV (agg : Bool) (cs : List AV) : AV :=
  match agg with
  | true => .agg cs
  | false => match cs with
    | [v] => v
    | _ => undef
def tiles (P : Program) (n : Nat) : Nat → List Field → Bool
  | off, [] => off.beq n
  | off, f :: fs => f.offset.beq off && tiles P n (off + P.cellsOf f.type) fs
def inS (S : List TypeId) (t : TypeId) : Bool := S.any fun u => Nat.beq u t
def okTy (P : Program) (S : List TypeId) (t : TypeId) : Bool :=
  match P.underlying t with
  | some .bool => (P.cellsOf t).beq 1
  | some (.int _) => (P.cellsOf t).beq 1
  | some .string => (P.cellsOf t).beq 1
  | some (.slice e) => (P.cellsOf t).beq 1 && (inS S e && Nat.ble 1 (P.cellsOf e))
  | some (.struct fs) => fs.toList.all (fun f => inS S f.type) && tiles P (P.cellsOf t) 0 fs.toList
  | _ => false
def AvParts (A : TypeId → List AV → Prop) : List Field → List AV → Prop
  | [], az => az = []
  | f :: fs, az => ∃ a b, az = a ++ b ∧ A f.type a ∧ AvParts A fs b
def AvOf (P : Program) : Nat → TypeId → List AV → Prop
  | 0, _, _ => False
  | n + 1, t, az =>
    match P.underlying t with
    | some .bool => ∃ b, az = [.bool b]
    | some (.int k) => ∃ m, az = [.int k m] ∧ k.min ≤ m ∧ m ≤ k.max
    | some .string => ∃ s, az = [.str s] ∧ s.length ≤ maxLen
    | some (.slice e) => az = [.nils] ∨ az = [.es] ∨ ∃ L : List (List AV), az = [.sl (P.cellsOf e) (L.map (mkV (isSt P e))) .wide] ∧ L.length ≤ maxLen ∧ ∀ a ∈ L, AvOf P n e a
    | some (.struct fs) => AvParts (AvOf P n) fs.toList az
    | _ => False
structure AvIn (P : Program) (w : World) (agg : Bool) (z : Nat) (az : List AV) (cs : List Value) : Prop where
  rel : RL (oldGh w) az cs
  bare : bares az = true
  ones : ones az = true
  one : ∀ x ∈ cs, x.oneCell' = true
  len : cs.length = z
  agg : agg = false → az.length = 1
theorem RL_one {g : Gh} {v : AV} {x : Value} (h : R g v x) : RL g [v] [x] := RL_cons h RL_nil
theorem ones_append (l m : List AV) : ones (l ++ m) = (ones l && ones m) := by
  induction l with
  | nil => rfl
  | cons v l ih => simp [ones, ih, Bool.and_assoc]
theorem choose_list {α : Type} {Q : Nat → α → Prop} : ∀ (n : Nat), (∀ i, i < n → ∃ a, Q i a) → ∃ L : List α, L.length = n ∧ ∀ i a, L[i]? = some a → Q i a
  | 0, _ => ⟨[], rfl, fun _ _ h => by simp at h⟩
  | n + 1, h => by
    obtain ⟨L, h1, h2⟩ := choose_list n fun i hi => h i (by omega)
    obtain ⟨a, ha⟩ := h n (by omega)
    refine ⟨L ++ [a], by simp [h1], fun i b hb => ?_⟩
    by_cases hi : i < L.length
    · rw [List.getElem?_append_left hi] at hb; exact h2 i b hb
    · rw [List.getElem?_append_right (by omega)] at hb
      have : i - L.length = 0 := by
        cases e : i - L.length with
        | zero => rfl
        | succ k => rw [e] at hb; simp at hb
      rw [this] at hb
      simp at hb
      subst hb
      have : i = n := by omega
      rw [this]; exact ha
theorem mkV_cells {agg : Bool} {cs : List AV} (ho : ones cs = true) (h : agg = false → cs.length = 1) : (mkV agg cs).cells = cs := by
  cases agg with
  | true => rfl
  | false =>
    have h := h rfl
    match cs, h, ho with
    | [v], _, ho =>
      simp only [VM.ones, Bool.and_true] at ho
      show v.cells = [v]
      cases v <;> first | rfl | (cases ho; done)
theorem mkV_bare {agg : Bool} {cs : List AV} (hb : bares cs = true) (h : agg = false → cs.length = 1) : VM.bare (mkV agg cs) = true := by
  cases agg with
  | true => exact hb
  | false =>
    have h := h rfl
    match cs, h, hb with
    | [v], _, hb =>
      rw [bares_cons] at hb
      simp only [Bool.and_eq_true] at hb
      exact hb.1
theorem RAtE_list {g : Gh} {z b : Nat} {agg : Bool} : ∀ (L : List (List AV)) (o : Nat), (∀ i a, L[i]? = some a → a.length = z ∧ ones a = true ∧ (agg = false → a.length = 1) ∧ RAt g a b (o + i * z)) → RAtE g z (L.map (mkV agg)) b o
  | [], _, _ => by simp [RAtE]
  | a :: L, o, h => by
    have h0 := h 0 a rfl
    rw [List.map_cons, RAtE_cons, mkV_cells h0.2.1 h0.2.2.1]
    refine ⟨h0.1, by simpa using h0.2.2.2, RAtE_list L (o + z) fun i a' hi => ?_⟩
    have := h (i + 1) a' (by simpa using hi)
    refine ⟨this.1, this.2.1, this.2.2.1, ?_⟩
    have e : o + (i + 1) * z = o + z + i * z := by rw [Nat.add_mul]; omega
    rw [← e]; exact this.2.2.2
theorem bares_mkVs {agg : Bool} : ∀ (L : List (List AV)), (∀ a ∈ L, bares a = true ∧ (agg = false → a.length = 1)) → bares (L.map (mkV agg)) = true
  | [], _ => rfl
  | a :: L, h => by
    rw [List.map_cons, bares_cons, mkV_bare (h a (by simp)).1 (h a (by simp)).2, bares_mkVs L fun a ha => h a (by simp [ha])]; rfl
section
variable {H : Type} {enc : TypeId × Value → H} {P : Program} {w : World} {sp : Nat → Bool} {held : Bool} {S : List TypeId}
theorem parts_of {n : Nat} (ih : ∀ t cs d ps, inS S t = true → DataW.trod enc P w 0 sp held n t cs = some (d, ps) → ∃ az, AvOf P n t az ∧ AvIn P w (isSt P t) (P.cellsOf t) az cs) :
    ∀ (fs : List Field) (off : Nat) (cs : List Value) (xs : List (DataW H × List MemPlace)), (fs.all fun f => inS S f.type) = true → tiles P cs.length off fs = true →
      (fs.mapM fun f => DataW.trod enc P w 0 sp held n f.type ((cs.drop f.offset).take (P.cellsOf f.type))) = some xs → off ≤ cs.length →
      ∃ az, AvParts (AvOf P n) fs az ∧ RL (oldGh w) az (cs.drop off) ∧ bares az = true ∧ ones az = true ∧ ∀ x ∈ cs.drop off, x.oneCell' = true
  | [], off, cs, xs, _, ht, _, hle => by
    have : off = cs.length := Nat.eq_of_beq_eq_true ht
    subst this
    refine ⟨[], rfl, ?_, rfl, rfl, ?_⟩
    · simp [List.drop_length, RL]
    · simp [List.drop_length]
  | f :: fs, off, cs, xs, hin, ht, hm, hle => by
    simp only [List.all_cons, Bool.and_eq_true] at hin
    simp only [tiles, Bool.and_eq_true] at ht
    have ho : f.offset = off := Nat.eq_of_beq_eq_true ht.1
    subst ho
    simp only [List.mapM_cons, Option.bind_eq_bind, Option.bind_eq_some_iff] at hm
    obtain ⟨⟨d, ps⟩, h1, ys, h2, _⟩ := hm
    obtain ⟨a, ha, hA⟩ := ih _ _ _ _ hin.1 h1
    have hlen : f.offset + P.cellsOf f.type ≤ cs.length := by
      have := hA.len
      rw [List.length_take, List.length_drop] at this
      omega
    obtain ⟨b, hb, hr, hbb, hbo, hone⟩ := parts_of ih fs (f.offset + P.cellsOf f.type) cs ys hin.2 ht.2 h2 hlen
    have hsplit : cs.drop f.offset = (cs.drop f.offset).take (P.cellsOf f.type) ++ cs.drop (f.offset + P.cellsOf f.type) := by
      rw [← List.drop_drop]; exact (List.take_append_drop _ _).symm
    refine ⟨a ++ b, ⟨a, b, rfl, ha, hb⟩, ?_, ?_, ?_, ?_⟩
    · rw [hsplit]; exact RL_append hA.rel hr
    · rw [bares_append, hA.bare, hbb]; rfl
    · rw [ones_append, hA.ones, hbo]; rfl
    · intro x hx
      rw [hsplit] at hx
      rcases List.mem_append.1 hx with hx | hx
      · exact hA.one x hx
      · exact hone x hx
theorem av_of (hsp : ∀ b, sp b = true) (hS : ∀ t, inS S t = true → okTy P S t = true) : ∀ (n : Nat) (t : TypeId) (cs : List Value) (d : DataW H) (ps : List MemPlace), inS S t = true → DataW.trod enc P w 0 sp held n t cs = some (d, ps) →
    ∃ az, AvOf P n t az ∧ AvIn P w (isSt P t) (P.cellsOf t) az cs
  | 0, _, _, _, _, _, h => by simp [DataW.trod] at h
  | n + 1, t, cs, d, ps, hin, h => by
    have hok := hS t hin
    unfold okTy at hok
    have flat : ∀ {v : AV} {x : Value}, isSt P t = false → (P.cellsOf t).beq 1 = true → R (oldGh w) v x → VM.bare v = true → VM.one v = true → x.oneCell' = true → AvIn P w (isSt P t) (P.cellsOf t) [v] [x] := fun hst hc hr hb ho hx =>
      ⟨RL_one hr, by simp [bares_cons, hb]; rfl, by simp [VM.ones, ho], by simpa using hx, (Nat.eq_of_beq_eq_true hc).symm, fun _ => rfl⟩
    simp only [DataW.trod] at h
    split at h
    · rename_i b hu
      rw [hu] at hok
      exact ⟨[.bool b], by simp only [AvOf, hu]; exact ⟨b, rfl⟩, flat (by simp [isSt, hu]) hok (by simp only [R]) rfl rfl rfl⟩
    · rename_i k k' m hu
      rw [hu] at hok
      split at h
      · rename_i hk
        obtain ⟨rfl, hwf⟩ := hk
        simp only [Lit.wf, Bool.and_eq_true, decide_eq_true_eq] at hwf
        exact ⟨[.int k' m], by simp only [AvOf, hu]; exact ⟨m, rfl, hwf⟩, flat (by simp [isSt, hu]) hok (by simp only [R]) rfl rfl rfl⟩
      · cases h
    · rename_i hu
      rw [hu] at hok; cases hok
    · rename_i s hu
      rw [hu] at hok
      split at h
      · rename_i hl
        refine ⟨[.str s.data.toList], by simp only [AvOf, hu]; exact ⟨_, rfl, by rw [Array.length_toList]; exact hl⟩, flat (by simp [isSt, hu]) hok ?_ rfl rfl rfl⟩
        simp only [R]
      · cases h
    · rename_i hu
      rw [hu] at hok; cases hok
    · rename_i hu
      rw [hu] at hok; cases hok
    · rename_i hu
      rw [hu] at hok
      simp only [Bool.and_eq_true] at hok
      exact ⟨[.nils], by simp [AvOf, hu], flat (by simp [isSt, hu]) hok.1 (by simp only [R]) rfl rfl rfl⟩
    · rename_i e a len cap hu
      rw [hu] at hok
      simp only [Bool.and_eq_true] at hok
      obtain ⟨hc, he, hz⟩ := hok
      have hz := Nat.le_of_ble_eq_true hz
      have hst : isSt P t = false := by simp [isSt, hu]
      split at h
      · rename_i hb
        simp only [Option.bind_eq_some_iff, Option.map_eq_some_iff] at h
        obtain ⟨elems, hel, rest, hrest, _⟩ := h
        have key : ∀ i, i < len → ∃ x cs', w.cells? 0 (a.add (i * P.cellsOf e)) (P.cellsOf e) = some cs' ∧ DataW.trod enc P w 0 sp held n e cs' = some x := by
          intro i hi
          have hl := mapM_some_length hel
          rw [List.length_range] at hl
          have := mapM_some_get hel i i (by simp [hi])
          rw [List.getElem?_eq_getElem (by omega)] at this
          simp only [Option.bind_eq_some_iff] at this
          obtain ⟨cs', h1, h2⟩ := this
          exact ⟨_, cs', h1, h2⟩
        have spot : ∀ x cs', w.cells? 0 (a.add (0 * P.cellsOf e)) (P.cellsOf e) = some cs' → DataW.trod enc P w 0 sp held n e cs' = some x → a.spot = none := by
          intro x cs' h1 _
          have h2 := World.cells?_some h1
          have h3 := h2.2.2 0 (by omega)
          have e0 : (a.add (0 * P.cellsOf e)).add 0 = a := by simp [Addr.add]
          rw [e0, List.getElem?_eq_getElem (by omega)] at h3
          exact World.cell?_spot h3
        have sl : a.spot = none → ∃ az, AvOf P (n + 1) t az ∧ AvIn P w (isSt P t) (P.cellsOf t) az [.slice (some a) len cap] := by
          intro hs
          obtain ⟨b, o, s⟩ := a
          dsimp only at hs
          subst hs
          have each : ∀ i, i < len → ∃ az, AvOf P n e az ∧ az.length = P.cellsOf e ∧ VM.ones az = true ∧ bares az = true ∧ (isSt P e = false → az.length = 1) ∧ RAt (oldGh w) az b (o + i * P.cellsOf e) := by
            intro i hi
            obtain ⟨x, cs', h1, h2⟩ := key i hi
            obtain ⟨az, hA, hI⟩ := av_of hsp hS n e cs' x.1 x.2 he h2
            refine ⟨az, hA, by rw [← RL_len hI.rel, hI.len], hI.ones, hI.bare, hI.agg, RAt_of_vals hI.rel fun j v hv => ⟨?_, hI.one v (List.mem_of_getElem? hv)⟩⟩
            have h3 := World.cells?_some h1
            have hj : j < P.cellsOf e := by
              have := (List.getElem?_eq_some_iff.1 hv).1
              omega
            have h4 := h3.2.2 j hj
            rw [Addr.add_at, Addr.add_at, hv] at h4
            exact h4
          obtain ⟨L, hL, hLa⟩ := choose_list len each
          have hmem : ∀ a ∈ L, ∃ i : Nat, L[i]? = some a := fun a ha => List.getElem?_of_mem ha
          refine ⟨[.sl (P.cellsOf e) (L.map (mkV (isSt P e))) .wide], ?_, flat hst hc ?_ rfl rfl rfl⟩
          · simp only [AvOf, hu]
            refine .inr (.inr ⟨L, rfl, by omega, fun a ha => ?_⟩)
            obtain ⟨i, hi⟩ := hmem a ha
            exact (hLa i a hi).1
          · simp only [R, List.length_map, hL]
            refine ⟨bares_mkVs L fun a ha => ?_, b, o, cap, rfl, hb.2.1, hz, RAtE_list L o fun i a hi => ?_, trivial⟩
            · obtain ⟨i, hi⟩ := hmem a ha
              exact ⟨(hLa i a hi).2.2.2.1, (hLa i a hi).2.2.2.2.1⟩
            · have := hLa i a hi
              exact ⟨this.2.1, this.2.2.1, this.2.2.2.2.1, this.2.2.2.2.2⟩
        by_cases hl0 : len = 0
        · by_cases hc0 : cap = 0
          · subst hl0 hc0
            exact ⟨[.es], by simp [AvOf, hu], flat hst hc (by simp only [R]; exact ⟨a, rfl⟩) rfl rfl rfl⟩
          · rw [hsp, if_pos rfl] at hrest
            have hl := mapM_some_length hrest
            rw [List.length_range] at hl
            have := mapM_some_get hrest 0 0 (List.getElem?_range (by omega))
            rw [List.getElem?_eq_getElem (by omega)] at this
            obtain ⟨cs', h1, h2⟩ := Option.bind_eq_some_iff.1 this
            subst hl0
            exact sl (spot _ cs' h1 h2)
        · obtain ⟨x, cs', h1, h2⟩ := key 0 (by omega)
          exact sl (spot _ cs' h1 h2)
      · cases h
    · rename_i _ fs hu
      rw [hu] at hok
      simp only [Bool.and_eq_true] at hok
      split at h
      · rename_i hl
        simp only [Option.map_eq_some_iff] at h
        obtain ⟨xs, hxs, _⟩ := h
        obtain ⟨az, h1, h2, h3, h4, h5⟩ := parts_of (av_of hsp hS n) fs.toList 0 _ xs hok.1 (by rw [hl]; exact hok.2) hxs (Nat.zero_le _)
        refine ⟨az, by simp only [AvOf, hu]; exact h1, ⟨by simpa using h2, h3, h4, by simpa using h5, hl, fun hf => ?_⟩⟩
        simp [isSt, hu] at hf
      · cases h
    all_goals first | (cases h; done) | skip
    all_goals (rename_i hu; first | (rw [hu] at hok; cases hok; done) | skip)
end
end Go.VM
