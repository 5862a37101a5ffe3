/- A region that draws its order. -/
import Derived.Test.YtjagieigmleneajGreatDoorVmReg2
namespace Go.VM

/-- What is looked at once in a region that draws its order. -/
def regionOk (ops : List Oper) : Bool :=
  (ops.zipIdx.all fun (o, j) => o.after.toList.all fun e => !Region.binds .any e || e.on.blt j) &&
  (ops.zipIdx.all fun (o, j) => (ops.zipIdx.take j).all fun (o', i) => o'.apart ops.toArray o || behind ops (j + 1) j i)

theorem regionOk_edge {ops : Array Oper} (h : regionOk ops.toList = true) {j : Nat} {o : Oper} {e : Edge} (ho : ops[j]? = some o) (he : e ∈ o.after) (hb : Region.binds .any e = true) : e.on < j := by
  simp only [regionOk, Bool.and_eq_true, List.all_eq_true] at h
  have := h.1 (o, j) (by
    rw [List.mem_zipIdx_iff_getElem?]
    simpa using ho)
  simp only at this
  have := this e (by simpa using he)
  rw [hb] at this
  simpa [blt_true] using this
theorem regionOk_pair {ops : Array Oper} (h : regionOk ops.toList = true) {i j : Nat} {o o' : Oper} (hij : i < j) (ho : ops[j]? = some o) (ho' : ops[i]? = some o') : o'.apart ops o = true ∨ behind ops.toList (j + 1) j i = true := by
  simp only [regionOk, Bool.and_eq_true, List.all_eq_true] at h
  have := h.2 (o, j) (by
    rw [List.mem_zipIdx_iff_getElem?]
    simpa using ho)
  simp only at this
  have := this (o', i) (by
    rw [List.mem_iff_getElem?]
    refine ⟨i, ?_⟩
    rw [List.getElem?_take, if_pos hij, List.getElem?_zipIdx]
    simp [ho'])
  simpa using this

def Cm (ops : List Oper) (p q : Nat × AV × Fx) : Prop := quiet p.2.2 = true ∨ quiet q.2.2 = true ∨ apart p.2.2 q.2.2 = true ∨ behind ops (q.1 + 1) q.1 p.1 = true

theorem orderly_spec {ops : List Oper} {j : Nat} {x : Fx} : ∀ {seen : List (Nat × Fx)}, orderly ops j x seen = true → ∀ p ∈ seen, apart p.2 x = true ∨ behind ops (j + 1) j p.1 = true
  | [], _, p, hp => by cases hp
  | (i, y) :: l, h, p, hp => by
    simp only [orderly, Bool.and_eq_true, Bool.or_eq_true] at h
    rcases List.mem_cons.1 hp with rfl | hp
    · exact h.1
    · exact orderly_spec h.2 p hp

theorem opsFrom_runs {X : Cx} {all : List Oper} {draw : Bool} : ∀ {l : List Oper} {j : Nat} {seen : List (Nat × Fx)} {fr fr' : Fr} {st st' : St}, opsFrom X all draw j seen l fr st = .ok (fr', st') → l = all.drop j →
    ∃ L, Runs X all L fr st fr' st' ∧ L.map (·.1) = List.range' j l.length ∧ (draw = true → L.Pairwise (Cm all) ∧ ∀ s ∈ seen, ∀ q ∈ L, quiet q.2.2 = true ∨ apart s.2 q.2.2 = true ∨ behind all (q.1 + 1) q.1 s.1 = true)
  | [], j, seen, fr, fr', st, st', h, hl => by
    simp only [opsFrom, Except.ok.injEq, Prod.mk.injEq] at h
    obtain ⟨rfl, rfl⟩ := h
    exact ⟨[], .nil, rfl, fun _ => ⟨.nil, by simp⟩⟩
  | o :: l, j, seen, fr, fr', st, st', h, hl => by
    simp only [opsFrom, bind_ok] at h
    obtain ⟨⟨v, x⟩, h1, h2⟩ := h
    have ho : all[j]? = some o := by
      have := congrArg (·[0]?) hl
      simpa using this.symm
    have hl' : l = all.drop (j + 1) := by
      have := congrArg List.tail hl
      simpa [List.tail_drop] using this
    split at h2
    · rename_i hd
      obtain ⟨L, k1, k2, k3⟩ := opsFrom_runs h2 hl'
      refine ⟨(j, v, x) :: L, .cons ho h1 k1, by simp [k2, List.range'_succ], fun hdr => ?_⟩
      have hq : quiet x = true := by rw [hdr] at hd; simpa using hd
      obtain ⟨m1, m2⟩ := k3 hdr
      refine ⟨.cons (fun q _ => .inl hq) m1, fun s hs q hq' => ?_⟩
      rcases List.mem_cons.1 hq' with rfl | hq'
      · exact .inl hq
      · exact m2 s hs q hq'
    · rename_i hd
      split at h2
      · rename_i hor
        obtain ⟨L, k1, k2, k3⟩ := opsFrom_runs h2 hl'
        refine ⟨(j, v, x) :: L, .cons ho h1 k1, by simp [k2, List.range'_succ], fun hdr => ?_⟩
        obtain ⟨m1, m2⟩ := k3 hdr
        refine ⟨.cons (fun q hq => ?_) m1, fun s hs q hq' => ?_⟩
        · rcases m2 (j, x) (by simp) q hq with h | h | h
          · exact .inr (.inl h)
          · exact .inr (.inr (.inl h))
          · exact .inr (.inr (.inr h))
        · rcases List.mem_cons.1 hq' with rfl | hq'
          · exact .inr (orderly_spec hor s hs)
          · exact m2 s (by simp [hs]) q hq'
      · cases h2

/-- What has been listed, and what is left. -/
structure Conf (ops : Array Oper) (listed : Array Bool) (L : List (Nat × AV × Fx)) : Prop where
  left : ∀ k, k < ops.size → (listed.getD k true = false ↔ k ∈ L.map (·.1))
  lt : ∀ k ∈ L.map (·.1), k < ops.size
  sorted : (L.map (·.1)).Pairwise (· < ·)
  closed : ∀ k o e, ops[k]? = some o → listed.getD k true = true → e ∈ o.after → Region.binds .any e = true → listed.getD e.on false = true
  size : listed.size = ops.size
  cm : L.Pairwise (Cm ops.toList)

theorem getD_true {l : Array Bool} {k : Nat} : l.getD k false = true → l.getD k true = true := by
  simp only [Array.getD_eq_getD_getElem?]
  cases l[k]? <;> simp
theorem behind_listed {ops : Array Oper} {listed : Array Bool} {L : List (Nat × AV × Fx)} (hc : Conf ops listed L) : ∀ (f j i : Nat), behind ops.toList f j i = true →
    (∀ o e, ops[j]? = some o → e ∈ o.after → Region.binds .any e = true → listed.getD e.on false = true) → listed.getD i true = true
  | 0, _, _, h, _ => by simp [behind] at h
  | f + 1, j, i, h, hr => by
    simp only [behind, Array.getElem?_toList] at h
    split at h
    · rename_i o ho
      simp only [List.any_eq_true, Bool.and_eq_true, Bool.or_eq_true] at h
      obtain ⟨e, he, hb, h2⟩ := h
      have hl := hr o e ho (by simpa using he) hb
      rcases h2 with h2 | ⟨_, h2⟩
      · rw [← Nat.eq_of_beq_eq_true h2]; exact getD_true hl
      · exact behind_listed hc f e.on i h2 fun o' e' ho' he' hb' => hc.closed e.on o' e' ho' (getD_true hl) he' hb'
    · cases h

theorem mem_ready {ops : Array Oper} {listed : Array Bool} {i : Nat} : i ∈ Region.ready .any ops listed ↔ i < ops.size ∧ listed.getD i true = false ∧ ∀ o e, ops[i]? = some o → e ∈ o.after → Region.binds .any e = true → listed.getD e.on false = true := by
  simp only [Region.ready, List.mem_filter, List.mem_range, Bool.and_eq_true, Bool.not_eq_true']
  constructor
  · rintro ⟨h1, h2, h3⟩
    refine ⟨h1, h2, fun o e ho he hb => ?_⟩
    rw [ho] at h3
    simp only [Option.map_some, Option.getD_some, Array.all_eq_true'] at h3
    have := h3 e he
    rw [hb] at this
    simpa using this
  · rintro ⟨h1, h2, h3⟩
    refine ⟨h1, h2, ?_⟩
    rw [Array.getElem?_eq_getElem h1]
    simp only [Option.map_some, Option.getD_some, Array.all_eq_true']
    intro e he
    cases hb : Region.binds .any e with
    | false => rfl
    | true => simpa using h3 _ e (Array.getElem?_eq_getElem h1) he hb

section
variable {P : Program} {A : Nat → Prop}
theorem wpAny_of {X : Cx} (hX : Good P X) {ops : Array Oper} (hok : regionOk ops.toList = true) {Q : Exit → Act → World → Prop} {fr' : Fr} {st' : St} : ∀ (fuel : Nat) (listed : Array Bool) (L : List (Nat × AV × Fx)) (fr : Fr) (st : St) (g : Gh) (a : Act) (w : World),
    L.length = fuel → Conf ops listed L → Runs X ops.toList L fr st fr' st' → Rel X A g fr st a w → (∀ a' g' w', Rel X A g' fr' st' a' w' → Kp A g w g' w' → Q .normal a' w') → wpAny P .any ops Q fuel listed a w
  | 0, listed, L, fr, st, g, a, w, hl, hc, hr, hrel, hQ => by
    have : L = [] := List.eq_nil_of_length_eq_zero hl
    subst this
    cases hr
    refine ⟨?_, hQ a g w hrel (Kp.refl _ _ _)⟩
    apply List.eq_nil_iff_forall_not_mem.2
    intro i hi
    obtain ⟨h1, h2, _⟩ := mem_ready.1 hi
    have := (hc.left i h1).1 h2
    cases this
  | fuel + 1, listed, L, fr, st, g, a, w, hl, hc, hr, hrel, hQ => by
    refine ⟨fun hnil => ?_, fun i hi => ?_⟩
    · exfalso
      cases L with
      | nil => simp at hl
      | cons p L =>
        have hp := hc.lt p.1 (by simp)
        have : p.1 ∈ Region.ready .any ops listed := mem_ready.2 ⟨hp, (hc.left p.1 hp).2 (by simp), fun o e ho he hb => by
          have hlt := regionOk_edge hok ho he hb
          have hes : e.on < ops.size := by omega
          have hnot : e.on ∉ (p :: L).map (·.1) := by
            intro hm
            simp only [List.map_cons, List.mem_cons] at hm
            rcases hm with hm | hm
            · omega
            · have := hc.sorted
              simp only [List.map_cons, List.pairwise_cons] at this
              have := this.1 _ hm
              omega
          have := mt (hc.left e.on hes).1 hnot
          have hsz : e.on < listed.size := by rw [hc.size]; exact hes
          simp only [Array.getD_eq_getD_getElem?, Array.getElem?_eq_getElem hsz, Option.getD_some] at this ⊢
          simpa using this⟩
        rw [hnil] at this
        cases this
    · obtain ⟨h1, h2, h3⟩ := mem_ready.1 hi
      have hm := (hc.left i h1).1 h2
      obtain ⟨q, hq, hqi⟩ := List.mem_map.1 hm
      subst hqi
      obtain ⟨L1, L2, rfl⟩ := List.append_of_mem hq
      have hturn : ∀ p ∈ L1, Turn ops p q := fun p hp => by
        have hlt : p.1 < q.1 := by
          have := hc.sorted
          rw [List.map_append, List.pairwise_append] at this
          exact this.2.2 p.1 (List.mem_map.2 ⟨p, hp, rfl⟩) q.1 (by simp)
        have hnb : ∀ f, behind ops.toList f q.1 p.1 = true → False := fun f hb => by
          have := behind_listed hc f q.1 p.1 hb h3
          have hp' := (hc.left p.1 (by omega)).2 (by simp only [List.map_append, List.mem_append, List.mem_map]; exact .inl ⟨p, hp, rfl⟩)
          rw [this] at hp'; cases hp'
        refine ⟨?_, fun o1 o2 e1 e2 => ?_⟩
        · have := hc.cm
          rw [List.pairwise_append] at this
          rcases this.2.2 p hp q (by simp) with h | h | h | h
          · exact .inl h
          · exact .inr (.inl h)
          · exact .inr (.inr h)
          · exact (hnb _ h).elim
        · rcases regionOk_pair hok hlt e2 e1 with h | h
          · exact h
          · exact (hnb _ h).elim
      have hr' := runs_first hr hturn
      cases hr' with
      | cons ho h t =>
        rename_i j v x o
        refine oper_sound hX (by simpa using ho) h hrel fun a' g' w' hrel' hk => ?_
        refine wpAny_of hX hok fuel _ (L1 ++ L2) _ _ g' a' w' (by simp at hl ⊢; omega) ?_ t hrel' fun a'' g'' w'' hr'' hk' => hQ a'' g'' w'' hr'' (hk.trans hk')
        have hsz : j < listed.size := by rw [hc.size]; exact h1
        have hget : ∀ k b, (listed.setIfInBounds j true).getD k b = if k = j then true else listed.getD k b := fun k b => by
          simp only [Array.getD_eq_getD_getElem?, Array.getElem?_setIfInBounds]
          by_cases hk : j = k
          · subst hk; simp [hsz]
          · rw [if_neg hk, if_neg (fun e => hk e.symm)]
        have hsort := hc.sorted
        rw [List.map_append, List.map_cons, List.pairwise_append, List.pairwise_cons] at hsort
        refine ⟨fun k hk => ?_, fun k hk => hc.lt k ?_, ?_, fun k o' e ho' hl' he hb => ?_, by simp [hc.size], ?_⟩
        · rw [hget]
          by_cases hkj : k = j
          · subst hkj
            simp only [if_true, Bool.true_eq_false, false_iff]
            intro hm
            simp only [List.map_append, List.mem_append] at hm
            rcases hm with hm | hm
            · have := hsort.2.2 k hm k (by simp); omega
            · have := hsort.2.1.1 k hm; omega
          · rw [if_neg hkj, hc.left k hk]
            simp only [List.map_append, List.map_cons, List.mem_append, List.mem_cons]
            constructor
            · rintro (h | h | h)
              · exact .inl h
              · exact absurd h hkj
              · exact .inr h
            · rintro (h | h)
              · exact .inl h
              · exact .inr (.inr h)
        · simp only [List.map_append, List.map_cons, List.mem_append, List.mem_cons] at hk ⊢
          rcases hk with h | h
          · exact .inl h
          · exact .inr (.inr h)
        · rw [List.map_append, List.pairwise_append]
          exact ⟨hsort.1, hsort.2.1.2, fun x hx y hy => hsort.2.2 x hx y (by simp [hy])⟩
        · rw [hget] at hl' ⊢
          by_cases hej : e.on = j
          · rw [if_pos hej]
          · rw [if_neg hej]
            by_cases hkj : k = j
            · subst hkj; exact h3 o' e ho' he hb
            · rw [if_neg hkj] at hl'; exact hc.closed k o' e ho' hl' he hb
        · have := hc.cm
          rw [List.pairwise_append, List.pairwise_cons] at this
          rw [List.pairwise_append]
          exact ⟨this.1, this.2.1.2, fun x hx y hy => this.2.2 x hx y (by simp [hy])⟩

theorem Rel.drew {X : Cx} {g : Gh} {fr : Fr} {st : St} {a : Act} {w : World} (h : Rel X A g fr st a w) : Rel X A g fr st a w.drew := ⟨h.fr, h.inv.drew, h.G, h.defers⟩

theorem region_sound {X : Cx} (hX : Good P X) (hm : P.follows .mixedOrders = true) {id : Nat} {ops : Array Oper} {draw : Bool} (hok : draw = true → regionOk ops.toList = true) {fr fr' : Fr} {st st' : St} {g : Gh} {a : Act} {w : World} {Q : Exit → Act → World → Prop}
    (h : opsFrom X ops.toList draw 0 [] ops.toList fr st = .ok (fr', st')) (hrel : Rel X A g fr st a w) (hQ : ∀ a' g' w', Rel X A g' fr' st' a' w' → Kp A g w g' w' → Q .normal a' w') : (Code.region id ops draw).wp P Q a w := by
  obtain ⟨L, k1, k2, k3⟩ := opsFrom_runs h (by simp)
  have hlen : L.map (·.1) = List.range ops.size := by rw [k2, List.range_eq_range']; simp
  cases draw with
  | false =>
    refine wp_region ?_
    have := wpOps_of_runs hX k1 hrel hQ
    rwa [hlen] at this
  | true =>
    obtain ⟨m1, _⟩ := k3 rfl
    refine wp_region_any hm ?_
    refine wpAny_of hX (hok rfl) ops.size _ L fr st g a w.drew ?_ ?_ k1 hrel.drew fun a' g' w' hr hk => hQ a' g' w' hr ((Kp.drew A g w).trans hk)
    · have := congrArg List.length hlen
      simpa using this
    · refine ⟨fun k hk => ?_, fun k hk => ?_, ?_, fun k o e ho hl => ?_, by simp, m1⟩
      · rw [hlen]; simp [hk]
      · rw [hlen] at hk; simpa using hk
      · rw [hlen]; exact List.pairwise_lt_range
      · have hk : k < ops.size := by
          rcases Nat.lt_or_ge k ops.size with q | q
          · exact q
          · rw [Array.getElem?_eq_none q] at ho; cases ho
        simp [hk] at hl
end
end Go.VM
