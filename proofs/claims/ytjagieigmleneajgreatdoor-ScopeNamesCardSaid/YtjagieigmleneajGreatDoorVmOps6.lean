/- Append. -/
import Derived.Test.YtjagieigmleneajGreatDoorVmOps5
import Derived.Laws.Append
namespace Go.VM
section
variable {P : Program} {T : TT} {A : Nat → Prop} {g : Gh} {st : St} {w : World}

/-- What is known grows, and a token moves on. -/
theorem Inv.retok (h : Inv T A g st w) {k n n' : Nat} {e : TypeId} {loc loc' : Nat → Option (Nat × Nat)} (b' lo : Nat) (vals : List Value)
    (hk : st.get k = .ok (.tok n e)) (hE : g.E k = some (.tok loc)) (hloc : ∀ m x, loc m = some x → loc' m = some x) (hro : st.ro ≤ k)
    (hnone : ∀ o, lo ≤ o → o < lo + vals.length → g.F b' o = none) (hcell : ∀ i v, vals[i]? = some v → w.cell? ⟨b', lo + i, none⟩ = some v)
    (hown : ∀ id o, st.get id = .ok o → id ≠ k → ¬ At g id o b') (hA : A b') (hat : ∀ b cap, loc' n' = some (b, cap) → b = b')
    (ho : Holds T ((g.addF b' lo vals).setE k (.tok loc')) w k (.tok n' e)) :
    Inv T A ((g.addF b' lo vals).setE k (.tok loc')) (st.put k (.tok n' e)) w ∧ Kp A g w ((g.addF b' lo vals).setE k (.tok loc')) w := by
  have hlt := (St.get_ok.1 hk).1
  have le1 : Le g (g.addF b' lo vals) := Le.addF hnone
  have le2 : Le (g.addF b' lo vals) ((g.addF b' lo vals).setE k (.tok loc')) := by
    refine ⟨fun _ _ _ x => x, fun _ _ x => x, fun j b x => ?_, fun j l x => ?_⟩
    · have : j ≠ k := fun e => by subst e; have := hE.symm.trans x; cases this
      rw [Gh.setE_ne _ _ this]; exact x
    · by_cases hj : j = k
      · subst hj
        have x' : g.E j = some (.tok l) := x
        have := hE.symm.trans x'
        simp only [Option.some.injEq, Ent.tok.injEq] at this
        subst this
        exact ⟨loc', Gh.setE_same _ _ _, hloc⟩
      · exact ⟨l, by rw [Gh.setE_ne _ _ hj]; exact x, fun _ _ y => y⟩
  have le := le1.trans le2
  refine ⟨⟨?_, h.M, ?_, ?_, ?_, ?_, h.up⟩, ⟨Nat.le_refl _, fun _ _ => rfl, fun b hb o => Gh.addF_other _ _ _ _ (.inl fun e => hb (e ▸ hA)), fun _ _ => rfl, le, rfl, rfl, rfl⟩⟩
  · intro b o v hv
    by_cases hc : b = b' ∧ lo ≤ o ∧ o < lo + vals.length
    · obtain ⟨rfl, h1, h2⟩ := hc
      have hv' : (g.addF b lo vals).F b o = some v := hv
      simp only [Gh.addF] at hv'
      rw [if_pos ⟨trivial, h1, h2⟩] at hv'
      have := hcell _ _ hv'
      rwa [show lo + (o - lo) = o by omega] at this
    · have hv' : (g.addF b' lo vals).F b o = some v := hv
      rw [Gh.addF_other _ _ _ _ (by omega)] at hv'
      exact h.F b o v hv'
  · intro id hid
    have hid' : st.h ≤ id := hid
    rw [Gh.setE_ne _ _ (by omega)]
    exact h.E id hid' 
  · intro id o hid
    by_cases hj : id = k
    · subst hj
      rw [St.get_put_same hlt] at hid
      cases hid; exact ho
    · rw [St.get_put_ne (fun e => hj e.symm)] at hid
      exact Holds_mono (h.H id o hid) le (Gh.setE_ne _ _ hj) fun b hb => ⟨fun _ => Gh.addF_other _ _ _ _ (.inl fun e => hown id o hid hj (e ▸ hb)), rfl⟩
  · intro id id' o o' b h1 h2 a1 a2
    by_cases hi : id = k <;> by_cases hi' : id' = k
    · rw [hi, hi']
    · subst hi
      rw [St.get_put_same hlt] at h1
      cases h1
      rw [St.get_put_ne (fun e => hi' e.symm)] at h2
      rw [At_E (Gh.setE_ne _ _ hi')] at a2
      obtain ⟨l, cap, q1, q2⟩ := a1
      rw [Gh.setE_same] at q1
      simp only [Option.some.injEq, Ent.tok.injEq] at q1
      subst q1
      have := hat b cap q2; subst this
      exact absurd a2 (hown id' o' h2 hi')
    · subst hi'
      rw [St.get_put_same hlt] at h2
      cases h2
      rw [St.get_put_ne (fun e => hi e.symm)] at h1
      rw [At_E (Gh.setE_ne _ _ hi)] at a1
      obtain ⟨l, cap, q1, q2⟩ := a2
      rw [Gh.setE_same] at q1
      simp only [Option.some.injEq, Ent.tok.injEq] at q1
      subst q1
      have := hat b cap q2; subst this
      exact absurd a1 (hown id o h1 hi)
    · rw [St.get_put_ne (fun e => hi e.symm)] at h1
      rw [St.get_put_ne (fun e => hi' e.symm)] at h2
      rw [At_E (Gh.setE_ne _ _ hi)] at a1
      rw [At_E (Gh.setE_ne _ _ hi')] at a2
      exact h.D id id' o o' b h1 h2 a1 a2
  · intro id o b h1 a1 hr
    by_cases hi : id = k
    · subst hi
      rw [St.get_put_same hlt] at h1
      cases h1
      obtain ⟨l, cap, q1, q2⟩ := a1
      rw [Gh.setE_same] at q1
      simp only [Option.some.injEq, Ent.tok.injEq] at q1
      subst q1
      have := hat b cap q2; subst this
      exact hA
    · rw [St.get_put_ne (fun e => hi e.symm)] at h1
      rw [At_E (Gh.setE_ne _ _ hi)] at a1
      exact h.own id o b h1 a1 hr

/-- What an append adds. -/
structure Src (P : Program) (size : Nat) (x : Value) (n : Nat) (news : List Value) (w : World) : Prop where
  len : (Builtin.lenOf x).run P w = .ok n w
  first : (Builtin.firstCells size n x).run P w = .ok news.toArray w
  drew : (Builtin.firstCells size n x).run P w.drew = .ok news.toArray w.drew
  l : news.length = n * size

theorem run_grow {t xt ty e : TypeId} {i : TypeInfo} {z : Value} {dx : TypeDesc} (ht : P.underlying t = some (.slice e)) (hxt : P.underlying xt = some dx) (hdx : ∀ k, dx ≠ .int k) (hi : P.info? e = some i) (hz : i.zero = some z)
    {base : Option Addr} {sLen sCap n : Nat} {olds news : List Value} {x : Value} (hs : Src P i.size (.slice base sLen sCap) sLen olds w) (hx : Src P i.size x n news w)
    (hg : sCap < sLen + n) (h63 : ((sLen + n : Nat) : Int) ≤ 9223372036854775807) (hfit : Builtin.nextslicecap (sLen + n) sCap * i.bytes ≤ 281474976710656) :
    (Builtin.append_ #[t, xt] ty #[.slice base sLen sCap, x]).run P w =
      .ok (.slice (some ⟨w.heap.size, 0, none⟩) (sLen + n) (grownCap w (sLen + n) sCap e))
        (w.drew.alloc (.cells (olds.toArray ++ news.toArray ++ Builtin.zeroCells z.cells (grownCap w (sLen + n) sCap e - (sLen + n))) e)) := by
  have hn : ¬ (sLen + n ≤ sCap) := by omega
  have h63' : ¬ (9223372036854775807 < ((sLen : Int) + (n : Int))) := by omega
  have h48' : ¬ (281474976710656 < Builtin.nextslicecap (sLen + n) sCap * i.bytes) := by omega
  simp [Builtin.append_, und_run ht, und_run hxt, sizeOf, typeInfo, zeroValue, hi, hz, hx.len, hn, h63', h48', Question.forced, hs.drew, hx.drew, newRow, grownCap]
  congr 2
  apply Array.ext'
  simp [List.append_assoc]

theorem run_room {t xt ty e : TypeId} {i : TypeInfo} {dx : TypeDesc} (ht : P.underlying t = some (.slice e)) (hxt : P.underlying xt = some dx) (hdx : ∀ k, dx ≠ .int k) (hi : P.info? e = some i)
    {a : Addr} {sLen sCap n : Nat} {news : List Value} {x : Value} {w' : World} (hx : Src P i.size x n news w)
    (hroom : sLen + n ≤ sCap) (hst : (storeCells (a.add (sLen * i.size)) news).run P w = .ok () w') :
    (Builtin.append_ #[t, xt] ty #[.slice (some a) sLen sCap, x]).run P w = .ok (.slice (some a) (sLen + n) sCap) w' := by
  simp [Builtin.append_, und_run ht, und_run hxt, sizeOf, typeInfo, hi, hx.len, hroom, hx.first, hst]

theorem Inv.drew' (h : Inv T A g st w) : Inv T A g st w.drew := h.drew

/-- A slice of the call's own, in a new block. -/
theorem Inv.newTok (h : Inv T A g st w) {e : TypeId} {i : TI} (hi : T.get e = some i) (h1 : 1 ≤ i.size) {els : List AV} {vals rest : List Value} {cap n : Nat} (hn : els.length = n)
    (hc : ∀ v ∈ els, v.cells.length = i.size) (hb : bares els = true) (hr : RL g (flat els) vals) (ho : ∀ v ∈ vals, v.oneCell' = true) (hsz : vals.length + rest.length = cap * i.size) (hcap : n ≤ cap) :
    ∃ g', Inv T A g' (st.new (.tok n e)).2 (w.drew.alloc (.cells (vals ++ rest).toArray e)) ∧ Kp A g w g' (w.drew.alloc (.cells (vals ++ rest).toArray e)) ∧
      R g' (.sl i.size els (.own st.h)) (.slice (some ⟨w.heap.size, 0, none⟩) n cap) := by
  have hd := h.drew
  have hF : ∀ o, 0 ≤ o → o < 0 + vals.length → g.F w.heap.size o = none := fun o _ _ => h.F_new (Nat.le_refl _) o
  have hvl : vals.length = n * i.size := by rw [RL_len hr, flat_length hc, hn]
  have i1 : Inv T A g st (w.drew.alloc (.cells (vals ++ rest).toArray e)) := hd.alloc _
  have i2 : Inv T A (g.addF w.heap.size 0 vals) st (w.drew.alloc (.cells (vals ++ rest).toArray e)) := i1.addF _ 0 vals hF (fun k v hv => by
      have : (w.drew.alloc (.cells (vals ++ rest).toArray e)).heap[w.heap.size]? = some (.cells (vals ++ rest).toArray e) := World.heap_alloc_new (w := w.drew)
      rw [cell_of this]
      have hk : k < vals.length := by
        rcases Nat.lt_or_ge k vals.length with q | q
        · exact q
        · simp [List.getElem?_eq_none q] at hv
      simp only [Nat.zero_add, List.getElem?_toArray]
      rw [List.getElem?_append_left hk]; exact hv) fun id o hid => h.not_new (Nat.le_refl _) id o hid
  have hE0 : (g.addF w.heap.size 0 vals).E st.h = none := h.E _ (Nat.le_refl _)
  have le1 : Le g (g.addF w.heap.size 0 vals) := Le.addF hF
  refine ⟨(g.addF w.heap.size 0 vals).setE st.h (.tok fun m => if m = n then some (w.heap.size, cap) else none), ?_, ?_, ?_⟩
  · refine i2.name (.tok n e) _ w.heap.size (fun id o hid => ?_) (h.up _ (Nat.le_refl _)) ?_ ?_
    · exact h.not_new (Nat.le_refl _) id o hid
    · rintro b' ⟨loc, cap', q1, q2⟩
      rw [Gh.setE_same] at q1
      simp only [Option.some.injEq, Ent.tok.injEq] at q1
      subst q1
      simp at q2
      exact q2.1.symm
    · refine ⟨_, w.heap.size, cap, i, (vals ++ rest).toArray, (0, 0), Gh.setE_same _ _ _, by simp, fun m hm => ?_, hi, h1, hcap, World.heap_alloc_new (w := w.drew), by simpa using hsz, by simp, fun o hof => ?_⟩
      · rw [if_neg (by omega)]
      · show (g.addF w.heap.size 0 vals).F w.heap.size o = none
        rw [Gh.addF_other _ _ _ _ (by omega)]
        exact h.F_new (Nat.le_refl _) o
  · exact ((Kp.drew A g w).trans (Kp.alloc _ hd)).trans ((Kp.addF (h.up _ (Nat.le_refl _)) hF).trans (Kp.setE hE0))
  · simp only [R]
    refine ⟨hb, w.heap.size, 0, cap, by rw [hn], by omega, h1, ?_, rfl, _, Gh.setE_same _ _ _, by simp [hn]⟩
    refine RAtE_mono (Le.setE hE0) _ _ _ _ ?_
    rw [RAtE_iff]
    refine ⟨hc, RAt_of_vals (RL_mono le1 _ _ hr) fun k x hx => ⟨Gh.addF_at g _ 0 vals k x hx, ho x (List.mem_of_getElem? hx)⟩⟩

/-- Storing beside what a string shares. -/
theorem run_storeCells_fz (b o : Nat) (ty : TypeId) (fz : Nat × Nat) : ∀ (vs : List Value) (i : Nat) (cur : Array Value) (w : World), w.heap[b]? = some (.cells cur ty fz) → o + i + vs.length ≤ cur.size →
    fz.2 ≤ o + i → (∀ v ∈ vs, v.oneCell' = true) →
    (storeCells ⟨b, o, none⟩ vs i).run P w = .ok () (w.setRow b (cur.toList.take (o + i) ++ vs ++ cur.toList.drop (o + i + vs.length)).toArray)
  | [], i, cur, w, hg, _, _, _ => by
    simp only [storeCells, List.append_nil, List.length_nil, Nat.add_zero, List.take_append_drop, Array.toArray_toList]
    rw [setRow_self w b cur ty fz hg]
    rfl
  | v :: rest, i, cur, w, hg, hl, hfz, h1 => by
    have hi : o + i < cur.size := by simp at hl; omega
    have hcell : w.cell? ⟨b, o + i, none⟩ = some cur[o + i] := by simp [World.cell?, hg, hi]
    have hfr : w.frozen? ⟨b, o + i, none⟩ = false := by
      simp only [World.frozen?, hg]
      simp; omega
    have hst : (store ((⟨b, o, none⟩ : Addr).add i) v).run P w = .ok () (w.setRow b (cur.setIfInBounds (o + i) v)) := by
      rw [Addr.add_at, run_store P w _ v _ (h1 v (by simp)), hcell]
      simp [hfr, setCell_eq_setRow w b (o + i) cur ty fz v hg]
    have ih := run_storeCells_fz b o ty fz rest (i + 1) (cur.setIfInBounds (o + i) v) (w.setRow b (cur.setIfInBounds (o + i) v)) (setRow_heap w b cur _ ty _ hg) (by simp at hl ⊢; omega) (by omega) (fun x hx => h1 x (by simp [hx]))
    simp only [storeCells, Sem.run_bind, hst, Result.andThen_ok, ih, setRow_setRow]
    congr 3
    have e := list_seg_step cur.toList (o + i) v rest (by simp at hl ⊢; omega)
    simpa [Array.toList_setIfInBounds, Nat.add_assoc] using e

end
end Go.VM
