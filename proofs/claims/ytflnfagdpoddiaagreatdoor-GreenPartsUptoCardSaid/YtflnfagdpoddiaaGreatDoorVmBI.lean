/-
  (A part of the proof: ArgOut, ArgRun, ArgUp.)
-/
import Derived.Test.YtflnfagdpoddiaaGreatDoorVmBH
import Derived.Test.YtflnfagdpoddiaaGreatDoorVmAI
import Derived.Below
import Derived.DataShut
namespace Go.VM
open Go.RowKit Go.ChangeShapes

section
variable {H : Type} {enc : TypeId × Value → H} {P : Program} {W W' : World} {sp : Nat → Bool} {held : Bool} {S : List TypeId}
theorem cell_keep (hB : Below W.heap.size W W') {a : Addr} {v : Value} (h : W.cell? a = some v) : W'.cell? a = some v := by
  have hlt : a.block < W.heap.size := by
    unfold World.cell? at h
    split at h
    · rename_i e
      exact (Array.getElem?_eq_some_iff.1 e).1
    · cases h
  unfold World.cell?
  rw [hB.block _ hlt]
  exact h
theorem cells_keep (hB : Below W.heap.size W W') {a : Addr} {n : Nat} {cs : List Value} (h : W.cells? 0 a n = some cs) : W'.cells? 0 a n = some cs := by
  obtain ⟨h1, h2, h3⟩ := World.cells?_some h
  refine World.cells?_of_each h1 h2 fun i hi => ?_
  have := h3 i hi
  rw [List.getElem?_eq_getElem (by omega)] at this ⊢
  exact cell_keep hB this
theorem parts_keep {n : Nat} (ih : ∀ t cs d ps, inS S t = true → DataW.trod enc P W 0 (fun _ => true) held n t cs = some (d, ps) → (∀ p ∈ ps, sp p.block = true) → DataW.trod enc P W' 0 sp held n t cs = some (d, ps)) :
    ∀ (fs : List Field) (cs : List Value) (xs : List (DataW H × List MemPlace)), (fs.all fun f => inS S f.type) = true →
      (fs.mapM fun f => DataW.trod enc P W 0 (fun _ => true) held n f.type ((cs.drop f.offset).take (P.cellsOf f.type))) = some xs → (∀ p ∈ xs.flatMap (·.2), sp p.block = true) →
      (fs.mapM fun f => DataW.trod enc P W' 0 sp held n f.type ((cs.drop f.offset).take (P.cellsOf f.type))) = some xs
  | [], cs, xs, _, h, _ => by simpa using h
  | f :: fs, cs, xs, hin, h, hp => by
    simp only [List.all_cons, Bool.and_eq_true] at hin
    simp only [List.mapM_cons, Option.bind_eq_bind, Option.bind_eq_some_iff, Option.pure_def, Option.some.injEq] at h ⊢
    obtain ⟨⟨d, ps⟩, h1, ys, h2, rfl⟩ := h
    simp only [List.flatMap_cons, List.mem_append] at hp
    exact ⟨(d, ps), ih _ _ _ _ hin.1 h1 fun p hm => hp p (.inl hm), ys, parts_keep ih fs cs ys hin.2 h2 fun p hm => hp p (.inr hm), rfl⟩
theorem elems_keep (hB : Below W.heap.size W W') {n : Nat} {e : TypeId} {a : Addr} (ih : ∀ cs d ps, DataW.trod enc P W 0 (fun _ => true) held n e cs = some (d, ps) → (∀ p ∈ ps, sp p.block = true) → DataW.trod enc P W' 0 sp held n e cs = some (d, ps)) (off : Nat) :
    ∀ (l : List Nat) (xs : List (DataW H × List MemPlace)), (l.mapM fun i => (W.cells? 0 (a.add ((off + i) * P.cellsOf e)) (P.cellsOf e)).bind (DataW.trod enc P W 0 (fun _ => true) held n e)) = some xs → (∀ p ∈ xs.flatMap (·.2), sp p.block = true) →
      (l.mapM fun i => (W'.cells? 0 (a.add ((off + i) * P.cellsOf e)) (P.cellsOf e)).bind (DataW.trod enc P W' 0 sp held n e)) = some xs
  | [], xs, h, _ => by simpa using h
  | i :: l, xs, h, hp => by
    simp only [List.mapM_cons, Option.bind_eq_bind, Option.bind_eq_some_iff, Option.pure_def, Option.some.injEq] at h ⊢
    obtain ⟨⟨d, ps⟩, ⟨cs, h0, h1⟩, ys, h2, rfl⟩ := h
    simp only [List.flatMap_cons, List.mem_append] at hp
    exact ⟨(d, ps), ⟨cs, cells_keep hB h0, ih _ _ _ h1 fun p hm => hp p (.inl hm)⟩, ys, elems_keep hB ih off l ys h2 fun p hm => hp p (.inr hm), rfl⟩
theorem trod_keep (hB : Below W.heap.size W W') (hS : ∀ t, inS S t = true → okTy P S t = true) : ∀ (n : Nat) (t : TypeId) (cs : List Value) (d : DataW H) (ps : List MemPlace), inS S t = true →
    DataW.trod enc P W 0 (fun _ => true) held n t cs = some (d, ps) → (∀ p ∈ ps, sp p.block = true) → DataW.trod enc P W' 0 sp held n t cs = some (d, ps)
  | 0, _, _, _, _, _, h, _ => by simp [DataW.trod] at h
  | n + 1, t, cs, d, ps, hin, h, hp => by
    have hok := hS t hin
    unfold okTy at hok
    simp only [DataW.trod] at h ⊢
    split at h
    · exact h
    · exact h
    · rename_i hu; rw [hu] at hok; cases hok
    · exact h
    · rename_i hu; rw [hu] at hok; cases hok
    · rename_i hu; rw [hu] at hok; cases hok
    · exact h
    · rename_i e a len cap hu
      rw [hu] at hok
      simp only [Bool.and_eq_true] at hok
      obtain ⟨hc, he, hz⟩ := hok
      have hz := Nat.le_of_ble_eq_true hz
      split at h
      · rename_i hb
        rw [if_pos hb]
        simp only [Option.bind_eq_some_iff, Option.map_eq_some_iff] at h ⊢
        obtain ⟨elems, hel, rest, hrest, hd⟩ := h
        simp only [Prod.mk.injEq] at hd
        obtain ⟨hd1, hd2⟩ := hd
        have hpl : ∀ p ∈ (elems ++ rest).flatMap (·.2), sp p.block = true := fun p hm => hp p (by rw [← hd2]; exact List.mem_append.2 (.inr hm))
        simp only [List.flatMap_append, List.mem_append] at hpl
        have ih := fun cs d ps => trod_keep hB hS n e cs d ps he
        have h1 := elems_keep (sp := sp) (W' := W') hB (e := e) (a := a) ih 0 (List.range len) elems (by simpa using hel) (fun p hm => hpl p (.inl hm))
        refine ⟨elems, by simpa using h1, rest, ?_, by rw [← hd1, ← hd2]⟩
        rw [if_pos trivial] at hrest
        by_cases hcap : cap - len = 0
        · rw [hcap] at hrest ⊢
          have : rest = [] := by simpa using hrest.symm
          subst this
          split <;> simp
        · have hsp : sp a.block = true := by
            have hlr := mapM_some_length hrest
            rw [List.length_range] at hlr
            refine hp (.cell a.block (a.off + 0)) ?_
            rw [← hd2]
            refine List.mem_append.2 (.inl ?_)
            unfold MemPlace.row
            refine List.mem_map.2 ⟨0, List.mem_range.2 ?_, rfl⟩
            exact Nat.mul_pos (by omega) hz
          rw [hsp, if_pos rfl]
          exact elems_keep (sp := sp) (W' := W') hB (e := e) (a := a) ih len _ rest hrest (fun p hm => hpl p (.inr hm))
      · cases h
    · rename_i _ fs hu
      rw [hu] at hok
      simp only [Bool.and_eq_true] at hok
      split at h
      · rename_i hl
        rw [if_pos hl]
        simp only [Option.map_eq_some_iff] at h ⊢
        obtain ⟨xs, hxs, hd⟩ := h
        simp only [Prod.mk.injEq] at hd
        refine ⟨xs, parts_keep (trod_keep hB hS n) fs.toList _ xs hok.1 hxs fun p hm => hp p (by rw [← hd.2]; exact hm), by rw [← hd.1, ← hd.2]⟩
      · cases h
    all_goals first | (cases h; done) | skip
    all_goals (rename_i hu; first | (rw [hu] at hok; cases hok; done) | skip)
theorem trodAll_keep (hB : Below W.heap.size W W') (hS : ∀ t, inS S t = true → okTy P S t = true) : ∀ {ts : List TypeId} {vs : List Value} {ds : List (DataW H)} {ps : List MemPlace}, (ts.all fun t => inS S t) = true →
    DataW.TrodAll enc P W 0 (fun _ => true) held ts vs ds ps → (∀ p ∈ ps, sp p.block = true) → DataW.TrodAll enc P W' 0 sp held ts vs ds ps
  | [], [], [], ps, _, h, _ => h
  | t :: ts, v :: vs, d :: ds, ps, hin, h, hp => by
    simp only [List.all_cons, Bool.and_eq_true] at hin
    obtain ⟨p, q, ⟨fuel, h1⟩, h2, rfl⟩ := h
    exact ⟨p, q, ⟨fuel, trod_keep hB hS fuel t _ d p hin.1 h1 fun x hx => hp x (List.mem_append.2 (.inl hx))⟩, trodAll_keep hB hS hin.2 h2 fun x hx => hp x (List.mem_append.2 (.inr hx)), rfl⟩
  | [], _ :: _, _, _, _, h, _ | [], [], _ :: _, _, _, h, _ | _ :: _, [], _, _, _, h, _ | _ :: _, _ :: _, [], _, _, h, _ => by simp [DataW.TrodAll] at h
end
end Go.VM
namespace Go.VM
open Go.RowKit Go.ChangeShapes

section
variable {H : Type} {enc : TypeId × Value → H} {P : Program} {w : World} {held : Bool} {S : List TypeId}
end
theorem trodAll_inv {H : Type} {enc : TypeId × Value → H} {P : Program} {w : World} {b : Nat} {sp : Nat → Bool} {held : Bool} {t : TypeId} {ts : List TypeId} {vs : List Value} {ds : List (DataW H)} {ps : List MemPlace} (h : DataW.TrodAll enc P w b sp held (t :: ts) vs ds ps) :
    ∃ v vs' d ds' p q, vs = v :: vs' ∧ ds = d :: ds' ∧ DataW.Trod enc P w b sp held t v d p ∧ DataW.TrodAll enc P w b sp held ts vs' ds' q ∧ ps = p ++ q := by
  match vs, ds, h with
  | v :: vs', d :: ds', h =>
    obtain ⟨p, q, h1, h2, rfl⟩ := h
    exact ⟨v, vs', d, ds', p, q, rfl, rfl, h1, h2, rfl⟩
theorem law_runs {P : Program} {E : Env} (hE : EnvOk P E) {f : FuncId} {args : List AV} (hrun : (orc E).bare f args = some (.bool true))
    (hcall : ∀ args w, (callFunc f args).run P w = .ok (.enter f args) w) {w : World} (hG : TabsAny E.G w) {xs : Array Value} (hb : bares args = true) (hr : RL (oldGh w) args xs.toList) :
    Calls P f xs w fun e w' => e = .returned (.bool true) ∧ Below w.heap.size w w' := by
  obtain ⟨m, hm⟩ := (orc_ok E).bare _ _ _ hrun
  refine (closedArgs hE (hm m (Nat.le_refl _)) hcall hG hb hr).mono ?_
  rintro e w' ⟨x, g, rfl, hx, hbel⟩
  simp only [R] at hx
  subst hx
  exact ⟨rfl, hbel⟩
end Go.VM
namespace Go.VM
open Go.RowKit Go.ChangeShapes

def bulkA : AV → Nat
  | .sl _ es _ => bulkAs es + 1
  | .agg cs => bulkAs cs
  | .str s => s.length + 1
  | _ => 1
  where
  bulkAs : List AV → Nat
    | [] => 0
    | v :: l => bulkA v + bulkAs l
abbrev bulkAs := bulkA.bulkAs
theorem bulkAs_nil : bulkAs [] = 0 := by simp only [bulkAs, bulkA.bulkAs]
theorem bulkAs_cons (v : AV) (l : List AV) : bulkAs (v :: l) = bulkA v + bulkAs l := by simp only [bulkAs, bulkA.bulkAs]
theorem bulkAs_app (l m : List AV) : bulkAs (l ++ m) = bulkAs l + bulkAs m := by
  induction l with
  | nil => rw [List.nil_append, bulkAs_nil]; omega
  | cons v l ih => rw [List.cons_append, bulkAs_cons, bulkAs_cons, ih]; omega
theorem bulkA_sl (z : Nat) (es : List AV) (p : Perm) : bulkA (.sl z es p) = bulkAs es + 1 := by simp only [bulkA, bulkAs]
theorem bulkA_agg (cs : List AV) : bulkA (.agg cs) = bulkAs cs := by simp only [bulkA, bulkAs]
theorem bulkA_str (s : List UInt8) : bulkA (.str s) = s.length + 1 := by simp only [bulkA]
theorem bulkA_int (k : IntKind) (n : Int) : bulkA (.int k n) = 1 := by simp only [bulkA]
structure Bulk {H : Type} (bk : DataW H → Nat) : Prop where
  one : ∀ d, 1 ≤ bk d
  str : ∀ s, s.length + 1 ≤ bk (.lit (.string s))
  slice : ∀ es sp, (es.map bk).sum + 1 ≤ bk (.slice es sp)
  agg : ∀ ps, (ps.map bk).sum ≤ bk (.agg ps)
theorem sum_le_of {α β : Type} {f : α → Nat} {g : β → Nat} : ∀ (L : List α) (E : List β), L.length = E.length → (∀ (i : Nat) a x, L[i]? = some a → E[i]? = some x → f a ≤ g x) → (L.map f).sum ≤ (E.map g).sum
  | [], [], _, _ => Nat.le_refl _
  | a :: L, x :: E, hl, h => by
    have h0 := h 0 a x rfl rfl
    have h1 := sum_le_of L E (by simpa using hl) fun i a x ha hx => h (i + 1) a x (by simpa using ha) (by simpa using hx)
    simp only [List.map_cons, List.sum_cons]
    omega
  | [], _ :: _, hl, _ => by cases hl
  | _ :: _, [], hl, _ => by cases hl
theorem bulk_mkV {agg : Bool} {cs : List AV} (h : agg = false → cs.length = 1) : bulkA (mkV agg cs) = bulkAs cs := by
  cases agg with
  | true => exact bulkA_agg cs
  | false =>
    have h := h rfl
    match cs, h with
    | [v], _ => show bulkA v = _; rw [bulkAs_cons, bulkAs_nil]; omega
theorem bulk_mkVs {agg : Bool} : ∀ (L : List (List AV)), (∀ a ∈ L, agg = false → a.length = 1) → bulkAs (L.map (mkV agg)) = (L.map bulkAs).sum
  | [], _ => by rw [List.map_nil, bulkAs_nil]; rfl
  | a :: L, h => by
    rw [List.map_cons, bulkAs_cons, bulk_mkV (h a List.mem_cons_self), bulk_mkVs L fun b hb => h b (List.mem_cons_of_mem _ hb), List.map_cons, List.sum_cons]

section
variable {H : Type} {enc : TypeId × Value → H} {P : Program} {w : World} {sp : Nat → Bool} {held : Bool} {S : List TypeId} {bk : DataW H → Nat}
theorem parts_up {n : Nat} (ih : ∀ t cs d ps, inS S t = true → DataW.trod enc P w 0 sp held n t cs = some (d, ps) → ∃ as, AvOf P n t as ∧ AvIn P w (isSt P t) (P.cellsOf t) as cs ∧ bulkAs as ≤ bk d) :
    ∀ (fs : List Field) (off : Nat) (cs : List Value) (xs : List (DataW H × List MemPlace)), (fs.all fun f => inS S f.type) = true → tiles P cs.length off fs = true →
      (fs.mapM fun f => DataW.trod enc P w 0 sp held n f.type ((cs.drop f.offset).take (P.cellsOf f.type))) = some xs → off ≤ cs.length →
      ∃ as, AvParts (AvOf P n) fs as ∧ RL (oldGh w) as (cs.drop off) ∧ bares as = true ∧ ones as = true ∧ (∀ x ∈ cs.drop off, x.oneCell' = true) ∧ bulkAs as ≤ (xs.map fun x => bk x.1).sum
  | [], off, cs, xs, _, ht, hm, hle => by
    have : off = cs.length := Nat.eq_of_beq_eq_true ht
    subst this
    refine ⟨[], rfl, ?_, rfl, rfl, ?_, by rw [bulkAs_nil]; exact Nat.zero_le _⟩
    · simp [List.drop_length, RL]
    · simp [List.drop_length]
  | f :: fs, off, cs, xs, hin, ht, hm, hle => by
    simp only [List.all_cons, Bool.and_eq_true] at hin
    simp only [tiles, Bool.and_eq_true] at ht
    have ho : f.offset = off := Nat.eq_of_beq_eq_true ht.1
    subst ho
    simp only [List.mapM_cons, Option.bind_eq_bind, Option.bind_eq_some_iff] at hm
    obtain ⟨⟨d, ps⟩, h1, ys, h2, hxs⟩ := hm
    obtain ⟨a, ha, hA, hbka⟩ := ih _ _ _ _ hin.1 h1
    have hxs : xs = (d, ps) :: ys := by simpa using hxs.symm
    have hlen : f.offset + P.cellsOf f.type ≤ cs.length := by
      have := hA.len
      rw [List.length_take, List.length_drop] at this
      omega
    obtain ⟨b, hb, hr, hbb, hbo, hone, hbkb⟩ := parts_up ih fs (f.offset + P.cellsOf f.type) cs ys hin.2 ht.2 h2 hlen
    have hsplit : cs.drop f.offset = (cs.drop f.offset).take (P.cellsOf f.type) ++ cs.drop (f.offset + P.cellsOf f.type) := by
      rw [← List.drop_drop]; exact (List.take_append_drop _ _).symm
    refine ⟨a ++ b, ⟨a, b, rfl, ha, hb⟩, ?_, ?_, ?_, ?_, ?_⟩
    · rw [hsplit]; exact RL_append hA.rel hr
    · rw [bares_append, hA.bare, hbb]; rfl
    · rw [ones_append, hA.ones, hbo]; rfl
    · intro x hx
      rw [hsplit] at hx
      rcases List.mem_append.1 hx with hx | hx
      · exact hA.one x hx
      · exact hone x hx
    · rw [hxs, List.map_cons, List.sum_cons, bulkAs_app]
      dsimp only
      omega
theorem av_up (hbk : Bulk bk) (hsp : ∀ b, sp b = true) (hS : ∀ t, inS S t = true → okTy P S t = true) : ∀ (n : Nat) (t : TypeId) (cs : List Value) (d : DataW H) (ps : List MemPlace), inS S t = true → DataW.trod enc P w 0 sp held n t cs = some (d, ps) →
    ∃ as, AvOf P n t as ∧ AvIn P w (isSt P t) (P.cellsOf t) as cs ∧ bulkAs as ≤ bk d
  | 0, _, _, _, _, _, h => by simp [DataW.trod] at h
  | n + 1, t, cs, d, ps, hin, h => by
    have hok := hS t hin
    unfold okTy at hok
    have flat : ∀ {v : AV} {x : Value}, isSt P t = false → (P.cellsOf t).beq 1 = true → R (oldGh w) v x → VM.bare v = true → VM.one v = true → x.oneCell' = true → AvIn P w (isSt P t) (P.cellsOf t) [v] [x] := fun hst hc hr hb ho hx =>
      ⟨RL_one hr, by simp [bares_cons, hb]; rfl, by simp [VM.ones, ho], by simpa using hx, (Nat.eq_of_beq_eq_true hc).symm, fun _ => rfl⟩
    have b1 : ∀ {v : AV}, bulkA v = 1 → bulkAs [v] ≤ bk d := fun h => by rw [bulkAs_cons, bulkAs_nil, h]; exact hbk.one d
    simp only [DataW.trod] at h
    split at h
    · rename_i b hu
      rw [hu] at hok
      exact ⟨[.bool b], by simp only [AvOf, hu]; exact ⟨b, rfl⟩, flat (by simp [isSt, hu]) hok (by simp only [R]) rfl rfl rfl, b1 (by simp only [bulkA])⟩
    · rename_i k k' m hu
      rw [hu] at hok
      split at h
      · rename_i hk
        obtain ⟨rfl, hwf⟩ := hk
        simp only [Lit.wf, Bool.and_eq_true, decide_eq_true_eq] at hwf
        exact ⟨[.int k' m], by simp only [AvOf, hu]; exact ⟨m, rfl, hwf⟩, flat (by simp [isSt, hu]) hok (by simp only [R]) rfl rfl rfl, b1 (by simp only [bulkA])⟩
      · cases h
    · rename_i hu
      rw [hu] at hok; cases hok
    · rename_i s hu
      rw [hu] at hok
      split at h
      · rename_i hl
        refine ⟨[.str s.data.toList], by simp only [AvOf, hu]; exact ⟨_, rfl, by rw [Array.length_toList]; exact hl⟩, flat (by simp [isSt, hu]) hok (by simp only [R]) rfl rfl rfl, ?_⟩
        simp only [Option.some.injEq, Prod.mk.injEq] at h
        rw [← h.1, bulkAs_cons, bulkAs_nil, bulkA_str]
        exact hbk.str _
      · cases h
    · rename_i hu
      rw [hu] at hok; cases hok
    · rename_i hu
      rw [hu] at hok; cases hok
    · rename_i hu
      rw [hu] at hok
      simp only [Bool.and_eq_true] at hok
      exact ⟨[.nils], by simp [AvOf, hu], flat (by simp [isSt, hu]) hok.1 (by simp only [R]) rfl rfl rfl, b1 (by simp only [bulkA])⟩
    · rename_i e a len cap hu
      rw [hu] at hok
      simp only [Bool.and_eq_true] at hok
      obtain ⟨hc, he, hz⟩ := hok
      have hz := Nat.le_of_ble_eq_true hz
      have hst : isSt P t = false := by simp [isSt, hu]
      split at h
      · rename_i hb
        simp only [Option.bind_eq_some_iff, Option.map_eq_some_iff] at h
        obtain ⟨elems, hel, rest, hrest, hdd⟩ := h
        have hel2 := mapM_some_length hel
        rw [List.length_range] at hel2
        have hbd : (elems.map fun x => bk x.1).sum + 1 ≤ bk d := by
          simp only [Prod.mk.injEq] at hdd
          rw [← hdd.1]
          have := hbk.slice (elems.map (·.1)) (rest.map (·.1))
          rw [List.map_map] at this
          exact this
        have key : ∀ i, i < len → ∃ x cs', elems[i]? = some x ∧ w.cells? 0 (a.add (i * P.cellsOf e)) (P.cellsOf e) = some cs' ∧ DataW.trod enc P w 0 sp held n e cs' = some x := by
          intro i hi
          have hl := mapM_some_length hel
          rw [List.length_range] at hl
          have := mapM_some_get hel i i (by simp [hi])
          rw [List.getElem?_eq_getElem (by omega)] at this
          simp only [Option.bind_eq_some_iff] at this
          obtain ⟨cs', h1, h2⟩ := this
          exact ⟨_, cs', List.getElem?_eq_getElem (by omega), h1, h2⟩
        have spot : ∀ x cs', w.cells? 0 (a.add (0 * P.cellsOf e)) (P.cellsOf e) = some cs' → DataW.trod enc P w 0 sp held n e cs' = some x → a.spot = none := by
          intro x cs' h1 _
          have h2 := World.cells?_some h1
          have h3 := h2.2.2 0 (by omega)
          have e0 : (a.add (0 * P.cellsOf e)).add 0 = a := by simp [Addr.add]
          rw [e0, List.getElem?_eq_getElem (by omega)] at h3
          exact World.cell?_spot h3
        have sl : a.spot = none → ∃ as, AvOf P (n + 1) t as ∧ AvIn P w (isSt P t) (P.cellsOf t) as [.slice (some a) len cap] ∧ bulkAs as ≤ bk d := by
          intro hs
          obtain ⟨b, o, s⟩ := a
          dsimp only at hs
          subst hs
          have each : ∀ i, i < len → ∃ as, AvOf P n e as ∧ as.length = P.cellsOf e ∧ VM.ones as = true ∧ bares as = true ∧ (isSt P e = false → as.length = 1) ∧ RAt (oldGh w) as b (o + i * P.cellsOf e) ∧ ∀ x, elems[i]? = some x → bulkAs as ≤ bk x.1 := by
            intro i hi
            obtain ⟨x, cs', hx0, h1, h2⟩ := key i hi
            obtain ⟨as, hA, hI, hbu⟩ := av_up hbk hsp hS n e cs' x.1 x.2 he h2
            refine ⟨as, hA, by rw [← RL_len hI.rel, hI.len], hI.ones, hI.bare, hI.agg, RAt_of_vals hI.rel fun j v hv => ⟨?_, hI.one v (List.mem_of_getElem? hv)⟩, fun y hy => by rw [hx0] at hy; cases hy; exact hbu⟩
            have h3 := World.cells?_some h1
            have hj : j < P.cellsOf e := by
              have := (List.getElem?_eq_some_iff.1 hv).1
              omega
            have h4 := h3.2.2 j hj
            rw [Addr.add_at, Addr.add_at, hv] at h4
            exact h4
          obtain ⟨L, hL, hLa⟩ := choose_list len each
          have hmem : ∀ a ∈ L, ∃ i : Nat, L[i]? = some a := fun a ha => List.getElem?_of_mem ha
          refine ⟨[.sl (P.cellsOf e) (L.map (mkV (isSt P e))) .wide], ?_, flat hst hc ?_ rfl rfl rfl, ?_⟩
          · simp only [AvOf, hu]
            refine .inr (.inr ⟨L, rfl, by omega, fun a ha => ?_⟩)
            obtain ⟨i, hi⟩ := hmem a ha
            exact (hLa i a hi).1
          · simp only [R, List.length_map, hL]
            refine ⟨bares_mkVs L fun a ha => ?_, b, o, cap, rfl, hb.2.1, hz, RAtE_list L o fun i a hi => ?_, trivial⟩
            · obtain ⟨i, hi⟩ := hmem a ha
              exact ⟨(hLa i a hi).2.2.2.1, (hLa i a hi).2.2.2.2.1⟩
            · have := hLa i a hi
              exact ⟨this.2.1, this.2.2.1, this.2.2.2.2.1, this.2.2.2.2.2.1⟩
          · rw [bulkAs_cons, bulkAs_nil, bulkA_sl, bulk_mkVs L fun a ha => by
              obtain ⟨i, hi⟩ := hmem a ha
              exact (hLa i a hi).2.2.2.2.1]
            have hs := sum_le_of (f := bulkAs) (g := fun x : DataW H × List MemPlace => bk x.1) L elems (by omega) fun i a x ha hx => (hLa i a ha).2.2.2.2.2.2 x hx
            omega
        by_cases hl0 : len = 0
        · by_cases hc0 : cap = 0
          · subst hl0 hc0
            exact ⟨[.es], by simp [AvOf, hu], flat hst hc (by simp only [R]; exact ⟨a, rfl⟩) rfl rfl rfl, b1 (by simp only [bulkA])⟩
          · rw [hsp, if_pos rfl] at hrest
            have hl := mapM_some_length hrest
            rw [List.length_range] at hl
            have := mapM_some_get hrest 0 0 (List.getElem?_range (by omega))
            rw [List.getElem?_eq_getElem (by omega)] at this
            obtain ⟨cs', h1, h2⟩ := Option.bind_eq_some_iff.1 this
            subst hl0
            exact sl (spot _ cs' h1 h2)
        · obtain ⟨x, cs', _, h1, h2⟩ := key 0 (by omega)
          exact sl (spot _ cs' h1 h2)
      · cases h
    · rename_i _ fs hu
      rw [hu] at hok
      simp only [Bool.and_eq_true] at hok
      split at h
      · rename_i hl
        simp only [Option.map_eq_some_iff] at h
        obtain ⟨xs, hxs, hdd⟩ := h
        obtain ⟨as, h1, h2, h3, h4, h5, h6⟩ := parts_up (av_up hbk hsp hS n) fs.toList 0 _ xs hok.1 (by rw [hl]; exact hok.2) hxs (Nat.zero_le _)
        refine ⟨as, by simp only [AvOf, hu]; exact h1, ⟨by simpa using h2, h3, h4, by simpa using h5, hl, fun hf => ?_⟩, ?_⟩
        · simp [isSt, hu] at hf
        · simp only [Prod.mk.injEq] at hdd
          rw [← hdd.1]
          have := hbk.agg (xs.map (·.1))
          rw [List.map_map] at this
          exact Nat.le_trans h6 this
      · cases h
    all_goals first | (cases h; done) | skip
    all_goals (rename_i hu; first | (rw [hu] at hok; cases hok; done) | skip)
end
section
variable {H : Type} {enc : TypeId × Value → H} {P : Program} {w : World} {held : Bool} {S : List TypeId}
theorem arg_up {bk : DataW H → Nat} (hbk : Bulk bk) (hS : ∀ t, inS S t = true → okTy P S t = true) {t : TypeId} {v : Value} {d : DataW H} {p : List MemPlace} {r : Reach} {base : Nat} (hin : inS S t = true) (hv : Value.okWide P w r base t v)
    (h : DataW.Trod enc P w 0 (fun _ => true) held t v d p) : ∃ n as, AvOf P n t as ∧ R (oldGh w) (mkV (isSt P t) as) v ∧ VM.bare (mkV (isSt P t) as) = true ∧ strip (mkV (isSt P t) as) = mkV (isSt P t) as ∧ bulkAs as ≤ bk d := by
  obtain ⟨n, h⟩ := h
  obtain ⟨as, hA, hI, hbu⟩ := av_up hbk (fun _ => rfl) hS n t _ d p hin h
  have hb := mkV_bare (agg := isSt P t) hI.bare hI.agg
  have hok := hS t hin
  unfold okTy at hok
  unfold Value.okWide at hv
  have one : isSt P t = false → (∀ cs, v ≠ .agg cs) → ∃ n as, AvOf P n t as ∧ R (oldGh w) (mkV (isSt P t) as) v ∧ VM.bare (mkV (isSt P t) as) = true ∧ strip (mkV (isSt P t) as) = mkV (isSt P t) as ∧ bulkAs as ≤ bk d := by
    intro hst hno
    have hc : v.cells.toList = [v] := by
      cases v <;> first | rfl | exact absurd rfl (hno _)
    have hl := hI.agg hst
    match as, hl, hA, hI, hb, hbu with
    | [a], _, hA, hI, hb, hbu =>
      refine ⟨n, [a], hA, ?_, hb, ?_, hbu⟩
      · have hr := hI.rel
        rw [hc] at hr
        obtain ⟨x, xs, e, hr, _⟩ := hr
        cases e
        rw [hst]; exact hr
      · rw [hst] at hb ⊢
        show strip a = a
        have hb : VM.bare a = true := hb
        cases a with
        | sl z e pm => cases pm with
          | own k => cases hb
          | _ => rfl
        | _ => rfl
  split at hv
  · rename_i fs hu
    obtain ⟨cs, rfl, _, _⟩ := hv
    have hst : isSt P t = true := by simp [isSt, hu]
    refine ⟨n, as, hA, ?_, hb, ?_, hbu⟩
    · rw [hst]
      simp only [mkV, R]
      exact ⟨cs, rfl, hI.rel⟩
    · rw [hst]; rfl
  · rename_i hu
    rw [hu] at hok; cases hok
  · rename_i h1 h2
    have hst : isSt P t = false := by
      unfold isSt
      split
      · rename_i fs hu; exact absurd hu (h1 fs)
      · rfl
    refine one hst ?_
    rintro cs rfl
    unfold Cell.okWide at hv
    split at hv
    all_goals first
      | (rename_i hu; rw [hu] at hok; cases hok; done)
      | (rename_i hx; cases hx; done)
      | skip
    all_goals (unfold Cell.ok at hv; split at hv)
    all_goals first
      | (cases hv; done)
      | (rename_i hx; cases hx; done)
      | skip
end
end Go.VM
