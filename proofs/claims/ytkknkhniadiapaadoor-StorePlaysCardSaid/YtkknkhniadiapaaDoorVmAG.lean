/-
  A part of the proof.
-/
import Derived.Test.YtkknkhniadiapaaDoorVmAF
import Derived.Laws.Append
namespace Go.VM
section
variable {P : Program} {T : TT} {A : Nat → Prop} {g : Gh} {st : St} {w : World}
theorem Inv.retok (h : Inv T A g st w) {k n n' : Nat} {e : TypeId} {loc loc' : Nat → Option (Nat × Nat)} (b' lo : Nat) (vals : List Value)
    (hk : st.get k = .ok (.tok n e)) (hE : g.E k = some (.tok loc)) (hloc : ∀ m x, loc m = some x → loc' m = some x) (hro : st.ro ≤ k)
    (hnone : ∀ o, lo ≤ o → o < lo + vals.length → g.F b' o = none) (hcell : ∀ i v, vals[i]? = some v → w.cell? ⟨b', lo + i, none⟩ = some v)
    (hown : ∀ id o, st.get id = .ok o → id ≠ k → ¬ At g id o b') (hA : A b') (hat : ∀ b cap, loc' n' = some (b, cap) → b = b')
    (ho : Holds T ((g.addF b' lo vals).setE k (.tok loc')) w k (.tok n' e)) (hU : g.C → Unf w b' := by exact fun _ => Unf.newC) :
    Inv T A ((g.addF b' lo vals).setE k (.tok loc')) (st.put k (.tok n' e)) w ∧ Kp A g w ((g.addF b' lo vals).setE k (.tok loc')) w := by
  have hlt := (St.get_ok.1 hk).1
  have le1 : Le g (g.addF b' lo vals) := Le.addF hnone
  have le2 : Le (g.addF b' lo vals) ((g.addF b' lo vals).setE k (.tok loc')) := by
    refine ⟨fun _ _ _ x => x, fun _ _ x => x, fun j b x => ?_, fun j l x => ?_, Iff.rfl⟩
    · have : j ≠ k := fun e => by subst e; have := hE.symm.trans x; cases this
      rw [Gh.setE_ne _ _ this]; exact x
    · by_cases hj : j = k
      · subst hj
        have x' : g.E j = some (.tok l) := x
        have := hE.symm.trans x'
        simp only [Option.some.injEq, Ent.tok.injEq] at this
        subst this
        exact ⟨loc', Gh.setE_same _ _ _, hloc⟩
      · exact ⟨l, by rw [Gh.setE_ne _ _ hj]; exact x, fun _ _ y => y⟩
  have le := le1.trans le2
  refine ⟨⟨?_, h.M, ?_, ?_, ?_, ?_, h.up, ?_⟩, ⟨Nat.le_refl _, fun _ _ => rfl, fun b hb o => Gh.addF_other _ _ _ _ (.inl fun e => hb (e ▸ hA)), fun _ _ => rfl, le, rfl, rfl, rfl⟩⟩
  · intro b o v hv
    by_cases hc : b = b' ∧ lo ≤ o ∧ o < lo + vals.length
    · obtain ⟨rfl, h1, h2⟩ := hc
      have hv' : (g.addF b lo vals).F b o = some v := hv
      simp only [Gh.addF] at hv'
      rw [if_pos ⟨trivial, h1, h2⟩] at hv'
      have := hcell _ _ hv'
      rwa [show lo + (o - lo) = o by omega] at this
    · have hv' : (g.addF b' lo vals).F b o = some v := hv
      rw [Gh.addF_other _ _ _ _ (by omega)] at hv'
      exact h.F b o v hv'
  · intro id hid
    have hid' : st.h ≤ id := hid
    rw [Gh.setE_ne _ _ (by omega)]
    exact h.E id hid' 
  · intro id o hid
    by_cases hj : id = k
    · subst hj
      rw [St.get_put_same hlt] at hid
      cases hid; exact ho
    · rw [St.get_put_ne (fun e => hj e.symm)] at hid
      exact Holds_mono (h.H id o hid) le (Gh.setE_ne _ _ hj) fun b hb => ⟨fun _ => Gh.addF_other _ _ _ _ (.inl fun e => hown id o hid hj (e ▸ hb)), rfl⟩
  · intro id id' o o' b h1 h2 a1 a2
    by_cases hi : id = k <;> by_cases hi' : id' = k
    · rw [hi, hi']
    · subst hi
      rw [St.get_put_same hlt] at h1
      cases h1
      rw [St.get_put_ne (fun e => hi' e.symm)] at h2
      rw [At_E (Gh.setE_ne _ _ hi')] at a2
      obtain ⟨l, cap, q1, q2⟩ := a1
      rw [Gh.setE_same] at q1
      simp only [Option.some.injEq, Ent.tok.injEq] at q1
      subst q1
      have := hat b cap q2; subst this
      exact absurd a2 (hown id' o' h2 hi')
    · subst hi'
      rw [St.get_put_same hlt] at h2
      cases h2
      rw [St.get_put_ne (fun e => hi e.symm)] at h1
      rw [At_E (Gh.setE_ne _ _ hi)] at a1
      obtain ⟨l, cap, q1, q2⟩ := a2
      rw [Gh.setE_same] at q1
      simp only [Option.some.injEq, Ent.tok.injEq] at q1
      subst q1
      have := hat b cap q2; subst this
      exact absurd a1 (hown id o h1 hi)
    · rw [St.get_put_ne (fun e => hi e.symm)] at h1
      rw [St.get_put_ne (fun e => hi' e.symm)] at h2
      rw [At_E (Gh.setE_ne _ _ hi)] at a1
      rw [At_E (Gh.setE_ne _ _ hi')] at a2
      exact h.D id id' o o' b h1 h2 a1 a2
  · intro id o b h1 a1 hr
    by_cases hi : id = k
    · subst hi
      rw [St.get_put_same hlt] at h1
      cases h1
      obtain ⟨l, cap, q1, q2⟩ := a1
      rw [Gh.setE_same] at q1
      simp only [Option.some.injEq, Ent.tok.injEq] at q1
      subst q1
      have := hat b cap q2; subst this
      exact hA
    · rw [St.get_put_ne (fun e => hi e.symm)] at h1
      rw [At_E (Gh.setE_ne _ _ hi)] at a1
      exact h.own id o b h1 a1 hr
  · intro c
    refine ⟨fun b o v ha hv => ?_, fun id o b h1 a1 => ?_⟩
    · by_cases hc : b = b' ∧ lo ≤ o ∧ o < lo + vals.length
      · rw [hc.1]; exact (hU c).sof o
      · have hv' : (g.addF b' lo vals).F b o = some v := hv
        rw [Gh.addF_other _ _ _ _ (by omega)] at hv'
        exact (h.C c).1 b o v ha hv'
    · by_cases hi : id = k
      · subst hi
        rw [St.get_put_same hlt] at h1
        cases h1
        obtain ⟨l, cap, q1, q2⟩ := a1
        rw [Gh.setE_same] at q1
        simp only [Option.some.injEq, Ent.tok.injEq] at q1
        subst q1
        rw [hat b cap q2]; exact hU c
      · rw [St.get_put_ne (fun e => hi e.symm)] at h1
        rw [At_E (Gh.setE_ne _ _ hi)] at a1
        exact (h.C c).2 id o b h1 a1
structure Src (P : Program) (size : Nat) (x : Value) (n : Nat) (news : List Value) (w : World) : Prop where
  len : (Builtin.lenOf x).run P w = .ok n w
  first : (Builtin.firstCells size n x).run P w = .ok news.toArray w
  drew : (Builtin.firstCells size n x).run P w.drew = .ok news.toArray w.drew
  l : news.length = n * size
theorem run_grow {t xt ty e : TypeId} {i : TypeInfo} {z : Value} {dx : TypeDesc} (ht : P.underlying t = some (.slice e)) (hxt : P.underlying xt = some dx) (hdx : ∀ k, dx ≠ .int k) (hi : P.info? e = some i) (hz : i.zero = some z)
    {base : Option Addr} {sLen sCap n : Nat} {olds news : List Value} {x : Value} (hs : Src P i.size (.slice base sLen sCap) sLen olds w) (hx : Src P i.size x n news w)
    (hg : sCap < sLen + n) (h63 : ((sLen + n : Nat) : Int) ≤ 9223372036854775807) (hfit : Builtin.nextslicecap (sLen + n) sCap * i.bytes ≤ 281474976710656) :
    (Builtin.append_ #[t, xt] ty #[.slice base sLen sCap, x]).run P w =
      .ok (.slice (some ⟨w.heap.size, 0, none⟩) (sLen + n) (grownCap w (sLen + n) sCap e))
        (w.drew.alloc (.cells (olds.toArray ++ news.toArray ++ Builtin.zeroCells z.cells (grownCap w (sLen + n) sCap e - (sLen + n))) e)) := by
  have hn : ¬ (sLen + n ≤ sCap) := by omega
  have h63' : ¬ (9223372036854775807 < ((sLen : Int) + (n : Int))) := by omega
  have h48' : ¬ (281474976710656 < Builtin.nextslicecap (sLen + n) sCap * i.bytes) := by omega
  simp [Builtin.append_, und_run ht, und_run hxt, sizeOf, typeInfo, zeroValue, hi, hz, hx.len, hn, h63', h48', Question.forced, hs.drew, hx.drew, newRow, grownCap]
  congr 2
  apply Array.ext'
  simp [List.append_assoc]
theorem run_room {t xt ty e : TypeId} {i : TypeInfo} {dx : TypeDesc} (ht : P.underlying t = some (.slice e)) (hxt : P.underlying xt = some dx) (hdx : ∀ k, dx ≠ .int k) (hi : P.info? e = some i)
    {a : Addr} {sLen sCap n : Nat} {news : List Value} {x : Value} {w' : World} (hx : Src P i.size x n news w)
    (hroom : sLen + n ≤ sCap) (hst : (storeCells (a.add (sLen * i.size)) news).run P w = .ok () w') :
    (Builtin.append_ #[t, xt] ty #[.slice (some a) sLen sCap, x]).run P w = .ok (.slice (some a) (sLen + n) sCap) w' := by
  simp [Builtin.append_, und_run ht, und_run hxt, sizeOf, typeInfo, hi, hx.len, hroom, hx.first, hst]
theorem Inv.newTok (h : Inv T A g st w) {e : TypeId} {i : TI} (hi : T.get e = some i) (h1 : 1 ≤ i.size) {els : List AV} {vals rest : List Value} {cap n : Nat} (hn : els.length = n)
    (hc : ∀ v ∈ els, v.cells.length = i.size) (hb : bares els = true) (hr : RL g (flat els) vals) (ho : ∀ v ∈ vals, v.oneCell' = true) (hsz : vals.length + rest.length = cap * i.size) (hcap : n ≤ cap) :
    ∃ g', Inv T A g' (st.new (.tok n e)).2 (w.drew.alloc (.cells (vals ++ rest).toArray e)) ∧ Kp A g w g' (w.drew.alloc (.cells (vals ++ rest).toArray e)) ∧
      R g' (.sl i.size els (.own st.h)) (.slice (some ⟨w.heap.size, 0, none⟩) n cap) := by
  have hd := h.drew
  have hF : ∀ o, 0 ≤ o → o < 0 + vals.length → g.F w.heap.size o = none := fun o _ _ => h.F_new (Nat.le_refl _) o
  have hvl : vals.length = n * i.size := by rw [RL_len hr, flat_length hc, hn]
  have i1 : Inv T A g st (w.drew.alloc (.cells (vals ++ rest).toArray e)) := hd.alloc _
  have i2 : Inv T A (g.addF w.heap.size 0 vals) st (w.drew.alloc (.cells (vals ++ rest).toArray e)) := i1.addF _ 0 vals hF (fun k v hv => by
      have : (w.drew.alloc (.cells (vals ++ rest).toArray e)).heap[w.heap.size]? = some (.cells (vals ++ rest).toArray e) := World.heap_alloc_new (w := w.drew)
      rw [cell_of this]
      have hk : k < vals.length := by
        rcases Nat.lt_or_ge k vals.length with q | q
        · exact q
        · simp [List.getElem?_eq_none q] at hv
      simp only [Nat.zero_add, List.getElem?_toArray]
      rw [List.getElem?_append_left hk]; exact hv) fun id o hid => h.not_new (Nat.le_refl _) id o hid
  have hE0 : (g.addF w.heap.size 0 vals).E st.h = none := h.E _ (Nat.le_refl _)
  have le1 : Le g (g.addF w.heap.size 0 vals) := Le.addF hF
  refine ⟨(g.addF w.heap.size 0 vals).setE st.h (.tok fun m => if m = n then some (w.heap.size, cap) else none), ?_, ?_, ?_⟩
  · refine i2.name (.tok n e) _ w.heap.size (fun id o hid => ?_) (h.up _ (Nat.le_refl _)) ?_ ?_
    · exact h.not_new (Nat.le_refl _) id o hid
    · rintro b' ⟨loc, cap', q1, q2⟩
      rw [Gh.setE_same] at q1
      simp only [Option.some.injEq, Ent.tok.injEq] at q1
      subst q1
      simp at q2
      exact q2.1.symm
    · refine ⟨_, w.heap.size, cap, i, (vals ++ rest).toArray, (0, 0), Gh.setE_same _ _ _, by simp, fun m hm => ?_, hi, h1, hcap, World.heap_alloc_new (w := w.drew), by simpa using hsz, by simp, fun o hof => ?_⟩
      · rw [if_neg (by omega)]
      · show (g.addF w.heap.size 0 vals).F w.heap.size o = none
        rw [Gh.addF_other _ _ _ _ (by omega)]
        exact h.F_new (Nat.le_refl _) o
  · exact ((Kp.drew A g w).trans (Kp.alloc _ hd)).trans ((Kp.addF (h.up _ (Nat.le_refl _)) hF).trans (Kp.setE hE0))
  · simp only [R]
    refine ⟨hb, w.heap.size, 0, cap, by rw [hn], by omega, h1, ?_, rfl, _, Gh.setE_same _ _ _, by simp [hn]⟩
    refine RAtE_mono (Le.setE hE0) _ _ _ _ ?_
    rw [RAtE_iff]
    refine ⟨hc, RAt_of_vals (RL_mono le1 _ _ hr) fun k x hx => ⟨Gh.addF_at g _ 0 vals k x hx, ho x (List.mem_of_getElem? hx)⟩⟩
theorem Inv.newTok0 (h : Inv T A g st w) {e : TypeId} {i : TI} (hi : T.get e = some i) (h1 : 1 ≤ i.size) {els : List AV} {vals rest : List Value} {cap n : Nat} (hn : els.length = n)
    (hc : ∀ v ∈ els, v.cells.length = i.size) (hb : bares els = true) (hr : RL g (flat els) vals) (ho : ∀ v ∈ vals, v.oneCell' = true) (hsz : vals.length + rest.length = cap * i.size) (hcap : n ≤ cap) :
    ∃ g', Inv T A g' (st.new (.tok n e)).2 (w.alloc (.cells (vals ++ rest).toArray e)) ∧ Kp A g w g' (w.alloc (.cells (vals ++ rest).toArray e)) ∧
      R g' (.sl i.size els (.own st.h)) (.slice (some ⟨w.heap.size, 0, none⟩) n cap) := by
  have hd := h
  have hF : ∀ o, 0 ≤ o → o < 0 + vals.length → g.F w.heap.size o = none := fun o _ _ => h.F_new (Nat.le_refl _) o
  have hvl : vals.length = n * i.size := by rw [RL_len hr, flat_length hc, hn]
  have i1 : Inv T A g st (w.alloc (.cells (vals ++ rest).toArray e)) := hd.alloc _
  have i2 : Inv T A (g.addF w.heap.size 0 vals) st (w.alloc (.cells (vals ++ rest).toArray e)) := i1.addF _ 0 vals hF (fun k v hv => by
      have : (w.alloc (.cells (vals ++ rest).toArray e)).heap[w.heap.size]? = some (.cells (vals ++ rest).toArray e) := World.heap_alloc_new (w := w)
      rw [cell_of this]
      have hk : k < vals.length := by
        rcases Nat.lt_or_ge k vals.length with q | q
        · exact q
        · simp [List.getElem?_eq_none q] at hv
      simp only [Nat.zero_add, List.getElem?_toArray]
      rw [List.getElem?_append_left hk]; exact hv) fun id o hid => h.not_new (Nat.le_refl _) id o hid
  have hE0 : (g.addF w.heap.size 0 vals).E st.h = none := h.E _ (Nat.le_refl _)
  have le1 : Le g (g.addF w.heap.size 0 vals) := Le.addF hF
  refine ⟨(g.addF w.heap.size 0 vals).setE st.h (.tok fun m => if m = n then some (w.heap.size, cap) else none), ?_, ?_, ?_⟩
  · refine i2.name (.tok n e) _ w.heap.size (fun id o hid => ?_) (h.up _ (Nat.le_refl _)) ?_ ?_
    · exact h.not_new (Nat.le_refl _) id o hid
    · rintro b' ⟨loc, cap', q1, q2⟩
      rw [Gh.setE_same] at q1
      simp only [Option.some.injEq, Ent.tok.injEq] at q1
      subst q1
      simp at q2
      exact q2.1.symm
    · refine ⟨_, w.heap.size, cap, i, (vals ++ rest).toArray, (0, 0), Gh.setE_same _ _ _, by simp, fun m hm => ?_, hi, h1, hcap, World.heap_alloc_new (w := w), by simpa using hsz, by simp, fun o hof => ?_⟩
      · rw [if_neg (by omega)]
      · show (g.addF w.heap.size 0 vals).F w.heap.size o = none
        rw [Gh.addF_other _ _ _ _ (by omega)]
        exact h.F_new (Nat.le_refl _) o
  · exact (Kp.alloc _ hd).trans ((Kp.addF (h.up _ (Nat.le_refl _)) hF).trans (Kp.setE hE0))
  · simp only [R]
    refine ⟨hb, w.heap.size, 0, cap, by rw [hn], by omega, h1, ?_, rfl, _, Gh.setE_same _ _ _, by simp [hn]⟩
    refine RAtE_mono (Le.setE hE0) _ _ _ _ ?_
    rw [RAtE_iff]
    refine ⟨hc, RAt_of_vals (RL_mono le1 _ _ hr) fun k x hx => ⟨Gh.addF_at g _ 0 vals k x hx, ho x (List.mem_of_getElem? hx)⟩⟩
theorem run_storeCells_fz (b o : Nat) (ty : TypeId) (fz : Nat × Nat) : ∀ (vs : List Value) (i : Nat) (cur : Array Value) (w : World), w.heap[b]? = some (.cells cur ty fz) → o + i + vs.length ≤ cur.size →
    fz.2 ≤ o + i → (∀ v ∈ vs, v.oneCell' = true) →
    (storeCells ⟨b, o, none⟩ vs i).run P w = .ok () (w.setRow b (cur.toList.take (o + i) ++ vs ++ cur.toList.drop (o + i + vs.length)).toArray)
  | [], i, cur, w, hg, _, _, _ => by
    simp only [storeCells, List.append_nil, List.length_nil, Nat.add_zero, List.take_append_drop, Array.toArray_toList]
    rw [setRow_self w b cur ty fz hg]
    rfl
  | v :: rest, i, cur, w, hg, hl, hfz, h1 => by
    have hi : o + i < cur.size := by simp at hl; omega
    have hcell : w.cell? ⟨b, o + i, none⟩ = some cur[o + i] := by simp [World.cell?, hg, hi]
    have hfr : w.frozen? ⟨b, o + i, none⟩ = false := by
      simp only [World.frozen?, hg]
      simp; omega
    have hst : (store ((⟨b, o, none⟩ : Addr).add i) v).run P w = .ok () (w.setRow b (cur.setIfInBounds (o + i) v)) := by
      rw [Addr.add_at, run_store P w _ v _ (h1 v (by simp)), hcell]
      simp [hfr, setCell_eq_setRow w b (o + i) cur ty fz v hg]
    have ih := run_storeCells_fz b o ty fz rest (i + 1) (cur.setIfInBounds (o + i) v) (w.setRow b (cur.setIfInBounds (o + i) v)) (setRow_heap w b cur _ ty _ hg) (by simp at hl ⊢; omega) (by omega) (fun x hx => h1 x (by simp [hx]))
    simp only [storeCells, Sem.run_bind, hst, Result.andThen_ok, ih, setRow_setRow]
    congr 3
    have e := list_seg_step cur.toList (o + i) v rest (by simp at hl ⊢; omega)
    simpa [Array.toList_setIfInBounds, Nat.add_assoc] using e
end
section
variable {P : Program} {T : TT} {A : Nat → Prop} {g : Gh} {st : St} {w : World}
theorem fit_cells {v v' : AV} {xs : List Value} (e : fit v = .ok v') (h : RL g v.cells xs) : RL g v'.cells xs ∧ bare v' = true ∧ v'.cells.length = v.cells.length := by
  unfold fit at e
  simp only at e
  split at e
  · rename_i hb
    simp only [Except.ok.injEq] at e
    subst e
    cases v with
    | agg cs => exact ⟨RL_strip h, hb, by simp [AV.cells]⟩
    | sl z es p =>
      cases p with
      | own k => exact ⟨RL_strip (vs := [.sl z es (.own k)]) h, hb, rfl⟩
      | _ => exact ⟨h, hb, rfl⟩
    | _ => exact ⟨h, hb, rfl⟩
  · cases e
theorem RL_split {us vs : List AV} {xs : List Value} (h : RL g (us ++ vs) xs) : RL g us (xs.take us.length) ∧ RL g vs (xs.drop us.length) := by
  have h1 := RL_take us.length h
  have h2 := RL_drop us.length h
  simp at h1 h2
  exact ⟨h1, h2⟩
theorem fits_flat : ∀ {vs vs' : List AV} {xs : List Value}, fits vs = .ok vs' → RL g (flat vs) xs → RL g (flat vs') xs ∧ bares vs' = true ∧ vs'.length = vs.length ∧ vs'.map (·.cells.length) = vs.map (·.cells.length)
  | [], _, _, e, h => by
    simp only [fits, Except.ok.injEq] at e; subst e; exact ⟨h, rfl, rfl, rfl⟩
  | v :: vs, vs', xs, e, h => by
    simp only [fits, bind_ok, pure_ok] at e
    obtain ⟨u, e1, us, e2, rfl⟩ := e
    rw [flat_cons] at h
    obtain ⟨h1, h2⟩ := RL_split h
    obtain ⟨k1, k2, k3⟩ := fit_cells e1 h1
    obtain ⟨k4, k5, k6, k7⟩ := fits_flat e2 h2
    refine ⟨?_, by simp [bares_cons, k2, k5], by simp [k6], by simp [k3, k7]⟩
    rw [flat_cons]
    have := RL_append k1 k4
    rwa [List.take_append_drop] at this
theorem grownCap_ge {n c : Nat} {e : TypeId} : n ≤ grownCap w n c e := by
  simp only [grownCap, Question.cut]; omega
theorem zeroCells_length (z : Array Value) (n : Nat) : (Builtin.zeroCells z n).toList.length = n * z.size := by
  simp [Builtin.zeroCells]
structure Elem (P : Program) (T : TT) (t xt e : TypeId) (i : TI) : Prop where
  t : P.underlying t = some (.slice e)
  xt : ∃ d, P.underlying xt = some d ∧ ∀ k, d ≠ .int k
  get : T.get e = some i
  ok : TIOk P e i
theorem Elem.info {t xt e : TypeId} {i : TI} (h : Elem P T t xt e i) : ∃ f z, P.info? e = some f ∧ f.size = i.size ∧ f.bytes = i.bytes ∧ f.zero = some z ∧ z.cells.size = i.size := by
  obtain ⟨f, h1, h2, h3, z, h4, h5, _⟩ := h.ok.info
  exact ⟨f, z, h1, h2, h3, h4, h5⟩
theorem roomOk_le {n : Nat} {i : TI} (h : roomOk n i = true) : n * i.bytes ≤ 70368744177664 ∧ 1 ≤ i.size ∧ n ≤ 70368744177664 := by
  simp only [roomOk, Bool.and_eq_true] at h
  exact ⟨Nat.le_of_ble_eq_true h.1, Nat.le_of_ble_eq_true h.2.1, Nat.le_of_ble_eq_true h.2.2⟩
theorem append_new {t xt ty e : TypeId} {i : TI} (he : Elem P T t xt e i) {base : Option Addr} {sLen sCap n : Nat} {olds news : List Value} {x : Value}
    (hs : Src P i.size (.slice base sLen sCap) sLen olds w) (hx : Src P i.size x n news w) (hg : sCap < sLen + n) (hroom : roomOk (sLen + n) i = true)
    (h : Inv T A g st w) {els : List AV} (hn : els.length = sLen + n) (hc : ∀ v ∈ els, v.cells.length = i.size) (hb : bares els = true) (hr : RL g (flat els) (olds ++ news)) (ho : ∀ v ∈ olds ++ news, v.oneCell' = true) :
    Gives P T A g w (.sl i.size els (.own st.h)) (st.new (.tok (sLen + n) e)).2 (Builtin.append_ #[t, xt] ty #[.slice base sLen sCap, x]) := by
  obtain ⟨f, z, f1, f2, f3, f4, f5⟩ := he.info
  obtain ⟨d, d1, d2⟩ := he.xt
  obtain ⟨r1, r2, r3⟩ := roomOk_le hroom
  have hfit : Builtin.nextslicecap (sLen + n) sCap * f.bytes ≤ 281474976710656 := growslice_fits hg (by rw [f3]; omega)
  have hrun := run_grow (ty := ty) he.t d1 d2 f1 f4 (by rw [f2]; exact hs) (by rw [f2]; exact hx) hg (by omega) hfit
  have hge := grownCap_ge (w := w) (n := sLen + n) (c := sCap) (e := e)
  obtain ⟨g', k1, k2, k3⟩ := h.newTok (rest := (Builtin.zeroCells z.cells (grownCap w (sLen + n) sCap e - (sLen + n))).toList) (cap := grownCap w (sLen + n) sCap e) he.get r2 hn hc hb hr ho (by
    rw [zeroCells_length, f5, RL_len hr, flat_length hc, hn, ← Nat.add_mul]
    congr 1; omega) hge
  have hw : olds.toArray ++ news.toArray ++ Builtin.zeroCells z.cells (grownCap w (sLen + n) sCap e - (sLen + n)) = (olds ++ news ++ (Builtin.zeroCells z.cells (grownCap w (sLen + n) sCap e - (sLen + n))).toList).toArray := by
    apply Array.ext'; simp
  rw [hw] at hrun
  exact ⟨_, g', _, hrun, k3, k1, k2⟩
theorem append_own {t xt ty e : TypeId} {i : TI} (he : Elem P T t xt e i) {k b o cap n : Nat} {es new : List AV} {news : List Value} {x : Value}
    (hk : st.get k = .ok (.tok es.length e)) (hro : st.ro ≤ k) (hb0 : bares es = true) (hes : RAtE g i.size es b o) (hcap : es.length ≤ cap) (hp : permR g (.own k) es.length b o cap)
    (hx : Src P i.size x n news w) (hn : new.length = n) (hn0 : 0 < n) (hc : ∀ v ∈ new, v.cells.length = i.size) (hb : bares new = true) (hr : RL g (flat new) news) (ho : ∀ v ∈ news, v.oneCell' = true)
    (hroom : roomOk (es.length + n) i = true) (h : Inv T A g st w) :
    Gives P T A g w (.sl i.size (es ++ new) (.own k)) (st.put k (.tok (es.length + n) e)) (Builtin.append_ #[t, xt] ty #[.slice (some ⟨b, o, none⟩) es.length cap, x]) := by
  obtain ⟨f, z, f1, f2, f3, f4, f5⟩ := he.info
  obtain ⟨d, d1, d2⟩ := he.xt
  obtain ⟨r1, r2, r3⟩ := roomOk_le hroom
  obtain ⟨rfl, loc, hE, hloc⟩ := hp
  obtain ⟨loc2, b2, cap2, i2, vs, fz, q1, q2, q3, q4, q5, q6, q7, q8, q9, q10⟩ := h.H k _ hk
  have e1 := q1.symm.trans hE
  simp only [Option.some.injEq, Ent.tok.injEq] at e1
  subst e1
  have e2 := q2.symm.trans hloc
  simp only [Option.some.injEq, Prod.mk.injEq] at e2
  obtain ⟨rfl, rfl⟩ := e2
  have e3 := q4.symm.trans he.get
  simp only [Option.some.injEq] at e3
  subst e3
  have hes' := hes
  rw [RAtE_iff] at hes'
  obtain ⟨hesc, hesr⟩ := hes'
  obtain ⟨olds, o1, o2⟩ := RAt_vals hesr
  have hol : olds.length = es.length * i2.size := by rw [RL_len o1, flat_length hesc]
  have hnl : news.length = n * i2.size := hx.l
  have hfl : flat (es ++ new) = flat es ++ flat new := flat_append _ _
  have hcall : ∀ v ∈ es ++ new, v.cells.length = i2.size := fun v hv => by
    rcases List.mem_append.1 hv with hv | hv
    · exact hesc v hv
    · exact hc v hv
  have hball : bares (es ++ new) = true := by rw [bares_append, hb0, hb]; rfl
  have hlenA : (es ++ new).length = es.length + n := by simp [hn]
  by_cases hcp : es.length + n ≤ cap2
  · -- in place
    have hst := run_storeCells_fz (P := P) b2 (es.length * i2.size) e fz news 0 vs w q7 (by
      rw [q8, hnl]; simp only [Nat.add_zero]; rw [← Nat.add_mul]; exact Nat.mul_le_mul_right _ hcp) (by simpa using q9) ho
    simp only [Nat.add_zero] at hst
    have hrun := run_room (ty := ty) (a := ⟨b2, 0, none⟩) he.t d1 d2 f1 (by rw [f2]; exact hx) hcp (by rw [f2, Addr.add_at, Nat.zero_add]; exact hst)
    generalize hrow : vs.toList.take (es.length * i2.size) ++ news ++ vs.toList.drop (es.length * i2.size + news.length) = row at hrun
    have hrowl : row.length = vs.size := by
      rw [← hrow]
      have : es.length * i2.size + news.length ≤ vs.size := by rw [q8, hnl, ← Nat.add_mul]; exact Nat.mul_le_mul_right _ hcp
      simp; omega
    have hpre : ∀ j, j < es.length * i2.size → row[j]? = vs[j]? := fun j hj => by
      rw [← hrow, List.append_assoc, List.getElem?_append_left (by simp; have := Nat.mul_le_mul_right i2.size hcap; omega), List.getElem?_take, if_pos hj]
      simp
    have hmid : ∀ j v, news[j]? = some v → row[es.length * i2.size + j]? = some v := fun j v hv => by
      have hj : j < news.length := by
        rcases Nat.lt_or_ge j news.length with q | q
        · exact q
        · simp [List.getElem?_eq_none q] at hv
      have htl : (vs.toList.take (es.length * i2.size)).length = es.length * i2.size := by
        have h1 : vs.toList.length = cap2 * i2.size := q8
        have h2 : es.length * i2.size ≤ cap2 * i2.size := Nat.mul_le_mul_right _ hcap
        rw [List.length_take, h1]; omega
      rw [← hrow, List.append_assoc, List.getElem?_append_right (by rw [htl]; omega), htl, List.getElem?_append_left (by omega)]
      rw [show es.length * i2.size + j - es.length * i2.size = j by omega]; exact hv
    have hheap : (w.setRow b2 row.toArray).heap[b2]? = some (.cells row.toArray e fz) := setRow_heap _ _ _ _ _ _ q7
    have hMn : g.M b2 = none := by
      cases hm : g.M b2 with
      | none => rfl
      | some ee =>
        have := h.M b2 ee.1 ee.2 hm
        rw [q7] at this; cases this
    have hat0 : At g k (.tok es.length e) b2 := ⟨loc2, cap2, q1, q2⟩
    have i1 : Inv T A g (st.put k (.tok es.length e)) (w.setRow b2 row.toArray) := h.write hk hat0 (.tok es.length e) (setRow_size _ _ _) (fun _ hb => setRow_ne _ _ _ hb)
      (fun j v hv => by
        have hj : j < es.length * i2.size := by
          rcases Nat.lt_or_ge j (es.length * i2.size) with q | q
          · exact q
          · rw [q10 j q] at hv; cases hv
        have := h.F b2 j v hv
        rw [cell_of q7] at this
        rw [cell_of hheap, List.getElem?_toArray, hpre j hj]; exact this) hMn
      (fun b' hb' => by
        obtain ⟨l, c, p1, p2⟩ := hb'
        have e1 := p1.symm.trans q1
        simp only [Option.some.injEq, Ent.tok.injEq] at e1
        subst e1
        have e2 := p2.symm.trans q2
        simp only [Option.some.injEq, Prod.mk.injEq] at e2
        exact e2.1)
      ⟨loc2, b2, cap2, i2, row.toArray, fz, q1, q2, q3, q4, q5, q6, hheap, by simpa [hrowl] using q8, q9, q10⟩
    have kp1 : Kp A g w g (w.setRow b2 row.toArray) := Kp.write (h.own k _ b2 hk hat0 hro) (setRow_size _ _ _) (fun _ hb => setRow_ne _ _ _ hb)
    have hk' : (st.put k (.tok es.length e)).get k = .ok (.tok es.length e) := St.get_put_same (St.get_ok.1 hk).1
    have hnone : ∀ o, es.length * i2.size ≤ o → o < es.length * i2.size + news.length → g.F b2 o = none := fun o ho _ => q10 o ho
    obtain ⟨i2', kp2⟩ := i1.retok (hU := fun c => (i1.C c).2 k _ b2 hk' hat0) (n' := es.length + n) (loc' := fun m => if m = es.length + n then some (b2, cap2) else loc2 m) b2 (es.length * i2.size) news hk' q1
      (fun m y hy => by
        by_cases hm : m = es.length + n
        · have := q3 m (by omega); rw [this] at hy; cases hy
        · rw [if_neg hm]; exact hy) hro hnone
      (fun j v hv => by rw [cell_of hheap, List.getElem?_toArray]; exact hmid j v hv)
      (fun id o hid hne ha => by
        rw [St.get_put_ne (fun e => hne e.symm)] at hid
        exact hne (h.D id k o _ b2 hid hk ha hat0)) (h.own k _ b2 hk hat0 hro)
      (fun b c hbc => by rw [if_pos rfl] at hbc; simp only [Option.some.injEq, Prod.mk.injEq] at hbc; exact hbc.1.symm)
      ⟨_, b2, cap2, i2, row.toArray, fz, Gh.setE_same _ _ _, by simp, fun m hm => by rw [if_neg (by omega)]; exact q3 m (by omega), q4, q5, hcp, hheap, by simpa [hrowl] using q8,
        Nat.le_trans q9 (Nat.mul_le_mul_right _ (by omega)), fun o ho' => by
          show (g.addF b2 (es.length * i2.size) news).F b2 o = none
          rw [Nat.add_mul] at ho'
          rw [Gh.addF_other _ _ _ _ (by omega)]
          exact q10 o (by omega)⟩
    have hput : (st.put k (.tok es.length e)).put k (.tok (es.length + n) e) = st.put k (.tok (es.length + n) e) := by
      simp only [St.put, Tr.put, Tr.set_set]
    rw [hput] at i2'
    refine ⟨_, _, _, hrun, ?_, i2', kp1.trans kp2⟩
    have hle : Le g _ := kp2.le
    simp only [R]
    refine ⟨hball, b2, 0, cap2, by rw [hlenA], by rw [hlenA]; exact hcp, q5, ?_, rfl, _, Gh.setE_same _ _ _, by simp [hn]⟩
    rw [RAtE_append]
    refine ⟨RAtE_mono hle _ _ _ _ hes, ?_⟩
    rw [RAtE_iff]
    refine ⟨hc, RAt_of_vals (RL_mono hle _ _ hr) fun j v hv => ⟨?_, ho v (List.mem_of_getElem? hv)⟩⟩
    rw [Nat.zero_add]
    exact Gh.addF_at g b2 (es.length * i2.size) news j v hv
  · -- in a new array
    have hadd : ∀ w' : World, (∀ b o, w'.cell? ⟨b, o, none⟩ = w.cell? ⟨b, o, none⟩) → (Builtin.firstCells i2.size es.length (.slice (some ⟨b2, 0, none⟩) es.length cap2)).run P w' = .ok olds.toArray w' := fun w' hw' =>
      run_firstCells_some (P := P) w' i2.size es.length ⟨b2, 0, none⟩ es.length cap2 olds hol (fun j v hv => by
        rw [Addr.add_at, hw']
        exact h.F _ _ _ (o2 j v hv).1)
    have hs : Src P i2.size (.slice (some ⟨b2, 0, none⟩) es.length cap2) es.length olds w := ⟨by simp [Builtin.lenOf], hadd w fun _ _ => rfl, hadd w.drew fun _ _ => rfl, hol⟩
    have hg : cap2 < es.length + n := by omega
    have hfit : Builtin.nextslicecap (es.length + n) cap2 * f.bytes ≤ 281474976710656 := growslice_fits hg (by rw [f3]; omega)
    have hrun := run_grow (ty := ty) he.t d1 d2 f1 f4 (by rw [f2]; exact hs) (by rw [f2]; exact hx) hg (by omega) hfit
    have hge := grownCap_ge (w := w) (n := es.length + n) (c := cap2) (e := e)
    generalize grownCap w (es.length + n) cap2 e = cap3 at hrun hge
    have hw : olds.toArray ++ news.toArray ++ Builtin.zeroCells z.cells (cap3 - (es.length + n)) = (olds ++ news ++ (Builtin.zeroCells z.cells (cap3 - (es.length + n))).toList).toArray := by
      apply Array.ext'; simp
    rw [hw] at hrun
    have hrl : (Builtin.zeroCells z.cells (cap3 - (es.length + n))).toList.length = (cap3 - (es.length + n)) * i2.size := by rw [zeroCells_length, f5]
    generalize (Builtin.zeroCells z.cells (cap3 - (es.length + n))).toList = rest at hrun hrl
    have hd := h.drew
    have i1 : Inv T A g st (w.drew.alloc (.cells (olds ++ news ++ rest).toArray e)) := hd.alloc _
    have kp1 : Kp A g w g (w.drew.alloc (.cells (olds ++ news ++ rest).toArray e)) := (Kp.drew A g w).trans (Kp.alloc _ hd)
    have hheap : (w.drew.alloc (.cells (olds ++ news ++ rest).toArray e)).heap[w.heap.size]? = some (.cells (olds ++ news ++ rest).toArray e) := World.heap_alloc_new (w := w.drew)
    have hvl : (olds ++ news).length = (es.length + n) * i2.size := by simp [hol, hnl, Nat.add_mul]
    obtain ⟨i2', kp2⟩ := i1.retok (n' := es.length + n) (loc' := fun m => if m = es.length + n then some (w.heap.size, cap3) else loc2 m) w.heap.size 0 (olds ++ news) hk q1
      (fun m y hy => by
        by_cases hm : m = es.length + n
        · have := q3 m (by omega); rw [this] at hy; cases hy
        · rw [if_neg hm]; exact hy) hro (fun o _ _ => h.F_new (Nat.le_refl _) o)
      (fun j v hv => by
        have hj : j < (olds ++ news).length := by
          rcases Nat.lt_or_ge j (olds ++ news).length with q | q
          · exact q
          · rw [List.getElem?_eq_none q] at hv; cases hv
        rw [cell_of hheap, List.getElem?_toArray, Nat.zero_add, List.getElem?_append_left hj]; exact hv)
      (fun id o hid _ => h.not_new (Nat.le_refl _) id o hid) (h.up _ (Nat.le_refl _))
      (fun b c hbc => by rw [if_pos rfl] at hbc; simp only [Option.some.injEq, Prod.mk.injEq] at hbc; exact hbc.1.symm)
      ⟨_, w.heap.size, cap3, i2, (olds ++ news ++ rest).toArray, (0, 0), Gh.setE_same _ _ _, by simp, fun m hm => by rw [if_neg (by omega)]; exact q3 m (by omega), q4, q5, hge, hheap, by
          simp only [List.size_toArray]
          rw [List.length_append, hvl, hrl, ← Nat.add_mul]
          congr 1; omega, by simp, fun o ho' => by
          show (g.addF w.heap.size 0 (olds ++ news)).F w.heap.size o = none
          rw [Gh.addF_other _ _ _ _ (by omega)]
          exact h.F_new (Nat.le_refl _) o⟩
    refine ⟨_, _, _, hrun, ?_, i2', kp1.trans kp2⟩
    simp only [R]
    refine ⟨hball, w.heap.size, 0, cap3, by rw [hlenA], by rw [hlenA]; exact hge, q5, ?_, rfl, _, Gh.setE_same _ _ _, by simp [hn]⟩
    rw [RAtE_iff]
    refine ⟨hcall, ?_⟩
    rw [hfl]
    exact RAt_of_vals (RL_mono kp2.le _ _ (RL_append o1 hr)) fun j v hv => ⟨Gh.addF_at g w.heap.size 0 (olds ++ news) j v hv, by
      rcases List.mem_append.1 (List.mem_of_getElem? hv) with hm | hm
      · obtain ⟨jj, hjj⟩ := List.getElem?_of_mem hm
        exact (o2 jj v hjj).2
      · exact ho v hm⟩
end
section
variable {P : Program} {T : TT} {A : Nat → Prop} {g : Gh} {st : St} {w : World}
theorem flat_ofBytes (s : List UInt8) : flat (ofBytes s) = ofBytes s := by
  unfold ofBytes
  induction s with
  | nil => rfl
  | cons b s ih => rw [List.map_cons, flat_cons, ih]; rfl
theorem RL_bytes (s : List UInt8) : RL g (ofBytes s) (s.map fun b => Value.int .u8 b.toNat) := by
  unfold ofBytes
  induction s with
  | nil => simp [RL]
  | cons b s ih => exact RL_cons (by simp only [R]) ih
theorem all_len {new : List AV} {z : Nat} (h : new.all (fun v => v.cells.length.beq z) = true) : ∀ v ∈ new, v.cells.length = z := by
  intro v hv
  exact Nat.eq_of_beq_eq_true (List.all_eq_true.1 h v hv)
theorem src_sound {x : Value} {s : AV} {new new' : List AV} {z : Nat} (hx : R g s x) (he : elemsV s = some new) (hf : fits new = .ok new') (hc : ∀ v ∈ new', v.cells.length = z) (hne : new ≠ []) (h : Inv T A g st w) :
    ∃ news, Src P z x new'.length news w ∧ RL g (flat new') news ∧ bares new' = true ∧ (∀ v ∈ news, v.oneCell' = true) ∧ new'.length = new.length := by
  cases s <;> simp only [elemsV, Option.some.injEq] at he <;> (try (cases he; done))
  · -- a string
    rename_i s
    subst he
    simp only [R] at hx
    subst hx
    obtain ⟨k1, k2, k3, k4⟩ := fits_flat (g := g) hf (xs := s.map fun b => Value.int .u8 b.toNat) (by rw [flat_ofBytes]; exact RL_bytes s)
    have hl : new'.length = s.length := by rw [k3]; simp [ofBytes]
    have hz : z = 1 := by
      cases new' with
      | nil =>
        have : s = [] := List.eq_nil_of_length_eq_zero (by simpa using hl.symm)
        subst this
        exact absurd rfl hne
      | cons v l =>
        have := hc v (by simp)
        cases s with
        | nil => simp [ofBytes] at hne
        | cons b s =>
          simp only [ofBytes, List.map_cons, List.cons.injEq] at k4
          have : v.cells.length = 1 := k4.1
          omega
    subst hz
    have hfirst : ∀ w', (Builtin.firstCells 1 new'.length (.string ⟨s.toArray⟩)).run P w' = .ok (s.map fun b => Value.int .u8 b.toNat).toArray w' := fun w' => by
      simp only [Builtin.firstCells, Sem.run_pure, hl]
      congr 1
      apply Array.ext'
      simp [ByteArray.data_extract]
    refine ⟨_, ⟨by simp [Builtin.lenOf, str_size, hl], hfirst w, hfirst w.drew, by simp [hl]⟩, k1, k2, fun v hv => ?_, k3⟩
    simp only [List.mem_map] at hv
    obtain ⟨b, _, rfl⟩ := hv
    rfl
  · subst he; exact absurd rfl hne
  · rename_i z' es p
    subst he
    simp only [R] at hx
    obtain ⟨hb, b, o, cap, rfl, hcap, hz1, hr, hp⟩ := hx
    rw [RAtE_iff] at hr
    obtain ⟨xs, x1, x2⟩ := RAt_vals hr.2
    obtain ⟨k1, k2, k3, k4⟩ := fits_flat hf x1
    have hz : z' = z := by
      cases hes : es with
      | nil => exact absurd hes hne
      | cons v l =>
        cases hn : new' with
        | nil => rw [hn, hes] at k3; simp at k3
        | cons v' l' =>
          rw [hn, hes] at k4
          simp only [List.map_cons, List.cons.injEq] at k4
          have h1 := hc v' (by rw [hn]; simp)
          have h2 := hr.1 v (by rw [hes]; simp)
          omega
    subst hz
    have hl : xs.length = new'.length * z' := by rw [RL_len x1, flat_length hr.1, k3]
    have hfirst : ∀ w' : World, (∀ b o, w'.cell? ⟨b, o, none⟩ = w.cell? ⟨b, o, none⟩) → (Builtin.firstCells z' new'.length (.slice (some ⟨b, o, none⟩) es.length cap)).run P w' = .ok xs.toArray w' := fun w' hw' =>
      run_firstCells_some (P := P) w' z' new'.length ⟨b, o, none⟩ es.length cap xs hl (fun j v hv => by
        rw [Addr.add_at, hw']
        exact h.F _ _ _ (x2 j v hv).1)
    exact ⟨xs, ⟨by simp [Builtin.lenOf, k3], hfirst w fun _ _ => rfl, hfirst w.drew fun _ _ => rfl, hl⟩, k1, k2, fun v hv => by
      obtain ⟨j, hj⟩ := List.getElem?_of_mem hv
      exact (x2 j v hj).2, k3⟩
  · subst he; exact absurd rfl hne
theorem append_sound {C : Caller} {t xt ty e : TypeId} {i : TI} (he : Elem P T t xt e i) {s x r : AV} {sv xv : Value} {new : List AV} {p : Plan} {fx : Fx} (hev : elemsV x = some new)
    (hp : appendP i e s new = .ok p) (hrun : runPlan C st p = .ok (r, fx)) (hs : R g s sv) (hx : R g x xv) (h : Inv T A g st w) :
    Gives P T A g w r (fx.did.app st) (Builtin.append_ #[t, xt] ty #[sv, xv]) := by
  obtain ⟨f, z, f1, f2, f3, f4, f5⟩ := he.info
  obtain ⟨d, d1, d2⟩ := he.xt
  unfold appendP at hp
  split at hp
  · -- nothing is appended
    have hsrc : (Builtin.lenOf xv).run P w = .ok 0 w ∧ (Builtin.firstCells f.size 0 xv).run P w = .ok #[] w := by
      cases x <;> simp only [elemsV, Option.some.injEq] at hev <;> (try (cases hev; done)) <;> simp only [R] at hx
      · rename_i s
        have : s = [] := by simpa [ofBytes] using hev
        subst this
        subst hx
        have h0 : (⟨[].toArray⟩ : ByteArray) = ByteArray.empty := rfl
        rw [h0]
        exact ⟨by simp [Builtin.lenOf], by simp [Builtin.firstCells]⟩
      · subst hx
        exact ⟨by simp [Builtin.lenOf], by simp [Builtin.firstCells]⟩
      · subst hev
        obtain ⟨_, b, o, cap, rfl, _⟩ := hx
        exact ⟨by simp [Builtin.lenOf], by simp [Builtin.firstCells, loadCells, loadCellsFrom]⟩
      · obtain ⟨a, rfl⟩ := hx
        exact ⟨by simp [Builtin.lenOf], by simp [Builtin.firstCells, loadCells, loadCellsFrom]⟩
    split at hp
    · simp only [pure_ok] at hp
      subst hp
      simp only [runPlan, Except.ok.injEq, Prod.mk.injEq] at hrun
      obtain ⟨rfl, rfl⟩ := hrun
      simp only [R] at hs
      subst hs
      refine Gives.of h (x := .slice none 0 0) ?_ (by simp only [R])
      simp [Builtin.append_, und_run he.t, und_run d1, sizeOf, typeInfo, f1, hsrc.1, hsrc.2]
    · simp only [pure_ok] at hp
      subst hp
      simp only [runPlan, Except.ok.injEq, Prod.mk.injEq] at hrun
      obtain ⟨rfl, rfl⟩ := hrun
      have hs' := hs
      simp only [R] at hs'
      obtain ⟨_, b, o, cap, rfl, hcap, _⟩ := hs'
      refine Gives.of h ?_ hs
      simp [Builtin.append_, und_run he.t, und_run d1, sizeOf, typeInfo, f1, hsrc.1, hsrc.2, hcap, storeCells]
    · simp only [pure_ok] at hp
      subst hp
      simp only [runPlan, Except.ok.injEq, Prod.mk.injEq] at hrun
      obtain ⟨rfl, rfl⟩ := hrun
      have hs' := hs
      simp only [R] at hs'
      obtain ⟨a, rfl⟩ := hs'
      refine Gives.of h ?_ hs
      simp [Builtin.append_, und_run he.t, und_run d1, sizeOf, typeInfo, f1, hsrc.1, hsrc.2, storeCells]
    · cases hp
  · rename_i v l
    simp only [bind_ok] at hp
    obtain ⟨new', hf, hp⟩ := hp
    split at hp
    · cases hp
    · rename_i hall
      have hc := all_len hall
      obtain ⟨news, s1, s2, s3, s4, s5⟩ := src_sound (P := P) hx hev hf hc (by simp) h
      have hpos : 0 < new'.length := by rw [s5]; simp
      split at hp
      · -- to nil
        split at hp
        · rename_i hroom
          simp only [pure_ok] at hp
          subst hp
          simp only [runPlan, Except.ok.injEq, Prod.mk.injEq] at hrun
          obtain ⟨rfl, rfl⟩ := hrun
          simp only [R] at hs
          subst hs
          have hnil : Src P i.size (.slice none 0 0) 0 [] w := ⟨by simp [Builtin.lenOf], by simp [Builtin.firstCells], by simp [Builtin.firstCells], by simp⟩
          have := append_new (ty := ty) he hnil s1 (by omega) (by rw [Nat.zero_add]; exact hroom) h (els := new') (by omega) hc s3 (by simpa using s2) (by simpa using s4)
          rw [Nat.zero_add] at this
          exact this
        · cases hp
      · rename_i z' es p'
        split at hp
        · cases hp
        · rename_i hroom
          simp only [Bool.and_eq_true] at hroom
          obtain ⟨hroom, hzz⟩ := hroom
          have hzz := Nat.eq_of_beq_eq_true hzz
          subst hzz
          have hs' := hs
          simp only [R] at hs'
          obtain ⟨hb0, b, o, cap, rfl, hcap, hz1, hes, hperm⟩ := hs'
          split at hp
          · simp only [pure_ok] at hp
            subst hp
            simp only [runPlan, Except.ok.injEq, Prod.mk.injEq] at hrun
            obtain ⟨rfl, rfl⟩ := hrun
            have hcap' : cap = es.length := hperm
            subst hcap'
            have hes' := hes
            rw [RAtE_iff] at hes'
            obtain ⟨xs, x1, x2⟩ := RAt_vals hes'.2
            have hl : xs.length = es.length * i.size := by rw [RL_len x1, flat_length hes'.1]
            have hfirst : ∀ w' : World, (∀ b o, w'.cell? ⟨b, o, none⟩ = w.cell? ⟨b, o, none⟩) → (Builtin.firstCells i.size es.length (.slice (some ⟨b, o, none⟩) es.length es.length)).run P w' = .ok xs.toArray w' := fun w' hw' =>
              run_firstCells_some (P := P) w' i.size es.length ⟨b, o, none⟩ es.length es.length xs hl (fun j v hv => by
                rw [Addr.add_at, hw']
                exact h.F _ _ _ (x2 j v hv).1)
            have hsrc : Src P i.size (.slice (some ⟨b, o, none⟩) es.length es.length) es.length xs w := ⟨by simp [Builtin.lenOf], hfirst w fun _ _ => rfl, hfirst w.drew fun _ _ => rfl, hl⟩
            exact append_new (ty := ty) he hsrc s1 (by omega) hroom h (els := es ++ new') (by simp) (fun v hv => by
              rcases List.mem_append.1 hv with hv | hv
              · exact hes'.1 v hv
              · exact hc v hv) (by rw [bares_append, hb0, s3]; rfl) (by rw [flat_append]; exact RL_append x1 s2) (fun v hv => by
              rcases List.mem_append.1 hv with hv | hv
              · obtain ⟨j, hj⟩ := List.getElem?_of_mem hv
                exact (x2 j v hj).2
              · exact s4 v hv)
          · rename_i k
            simp only [pure_ok] at hp
            subst hp
            simp only [runPlan, bind_ok, pure_ok] at hrun
            obtain ⟨ob, h1, ⟨v', o'⟩, h2, dd, h5, h6⟩ := hrun
            split at h2
            · rename_i n e'
              split at h2
              · rename_i hcond
                simp only [Bool.and_eq_true] at hcond
                have hn := Nat.eq_of_beq_eq_true hcond.1
                have he' := Nat.eq_of_beq_eq_true hcond.2
                subst hn he'
                simp only [pure_ok, Prod.mk.injEq] at h2
                obtain ⟨rfl, rfl⟩ := h2
                simp only [didOf] at h5
                split at h5
                · cases h5
                · rename_i hro
                  rw [blt_false] at hro
                  simp only [Except.ok.injEq] at h5
                  subst h5
                  simp only [Prod.mk.injEq] at h6
                  obtain ⟨rfl, rfl⟩ := h6
                  exact append_own he h1 hro hb0 hes hcap hperm s1 rfl hpos hc s3 s2 s4 hroom h
              · cases h2
            · cases h2
          · cases hp
      · split at hp
        · rename_i hroom
          simp only [pure_ok] at hp
          subst hp
          simp only [runPlan, Except.ok.injEq, Prod.mk.injEq] at hrun
          obtain ⟨rfl, rfl⟩ := hrun
          simp only [R] at hs
          obtain ⟨a, rfl⟩ := hs
          have hnil : Src P i.size (.slice (some a) 0 0) 0 [] w := ⟨by simp [Builtin.lenOf], by simp [Builtin.firstCells, loadCells, loadCellsFrom], by simp [Builtin.firstCells, loadCells, loadCellsFrom], by simp⟩
          have := append_new (ty := ty) he hnil s1 (by omega) (by rw [Nat.zero_add]; exact hroom) h (els := new') (by omega) hc s3 (by simpa using s2) (by simpa using s4)
          rw [Nat.zero_add] at this
          exact this
        · cases hp
      · cases hp
end
end Go.VM
