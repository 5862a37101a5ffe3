/- Stores into maps; ranges; the rest. -/
import Derived.Test.YtjagieigmleneajGreatDoorVmOps10
namespace Go.VM
section
variable {P : Program} {T : TT} {A : Nat → Prop} {g : Gh} {st : St} {w : World}

theorem keyEq_eq {a b : AV} (h : keyEq a b = .ok true) : a = b := by
  unfold keyEq at h
  split at h
  · simp only [Except.ok.injEq, beq_iff_eq] at h; subst h; rfl
  · split at h
    · rename_i hjk
      subst hjk
      simp only [Except.ok.injEq, beq_iff_eq] at h; subst h; rfl
    · cases h
  · simp only [Except.ok.injEq, beq_iff_eq] at h; subst h; rfl
  · cases h
theorem keyEq_bits {a b : AV} {x y : Value} (h : keyEq a b = .ok true) (hx : R g a x) (hy : R g b y) (n : Nat) : Instr.sameBits n y x = true := by
  unfold keyEq at h
  split at h
  · simp only [Except.ok.injEq, beq_iff_eq] at h
    subst h
    simp only [R] at hx hy
    subst hx hy
    cases n <;> simp [Instr.sameBits]
  · split at h
    · rename_i hjk
      subst hjk
      simp only [Except.ok.injEq, beq_iff_eq] at h
      subst h
      simp only [R] at hx hy
      subst hx hy
      cases n <;> simp [Instr.sameBits]
    · cases h
  · simp only [Except.ok.injEq, beq_iff_eq] at h
    subst h
    simp only [R] at hx hy
    subst hx hy
    have := fun s : List UInt8 => bs_beq s s
    cases n <;> simp [Instr.sameBits, this]
  · cases h

theorem setEntry_sound {d : TypeDesc} {u : U} {k v : AV} {kx vx : Value} (hu : UOk d u) (hk : keyOk u k = true) (hx : R g k kx) (hv : R g v vx) : ∀ {es es' : List (AV × AV)} {ents : List MapEntry} (i : Nat), setEntry k v es = .ok es' → REs g es ents →
    (Instr.findNow d kx ents i = some none ∧ ∀ n, REs g es' (ents ++ [{ key := kx, val := vx, born := n }])) ∨
    (∃ j y e, Instr.findNow d kx ents i = some (some (i + j, y)) ∧ ents[j]? = some e ∧ Instr.sameBits 10000 e.key kx = true ∧ REs g es' (ents.modify j fun e => { e with key := kx, val := vx }))
  | [], _, _, i, h, hr => by
    simp only [setEntry, Except.ok.injEq] at h
    subst h
    simp only [REs] at hr
    subst hr
    exact .inl ⟨rfl, fun n => by simp only [REs]; exact ⟨_, _, rfl, hx, hv, rfl⟩⟩
  | (a, b) :: es, _, _, i, h, hr => by
    simp only [REs] at hr
    obtain ⟨e, l, rfl, r1, r2, r3⟩ := hr
    simp only [setEntry, bind_ok] at h
    obtain ⟨c, h1, h2⟩ := h
    have hs := keyEq_sound hu hk h1 hx r1
    cases c with
    | true =>
      simp only [pure_ok] at h2
      subst h2
      refine .inr ⟨0, e.val, e, by simp [Instr.findNow, hs], rfl, keyEq_bits h1 hx r1 _, ?_⟩
      simp only [List.modify_zero_cons, REs]
      have := keyEq_eq h1
      subst this
      exact ⟨_, _, rfl, hx, hv, r3⟩
    | false =>
      simp only [bind_ok, pure_ok] at h2
      obtain ⟨l', h3, rfl⟩ := h2
      rcases setEntry_sound hu hk hx hv (i + 1) h3 r3 with ⟨q1, q2⟩ | ⟨j, y, e', q1, q2, q3, q4⟩
      · refine .inl ⟨by simp only [Instr.findNow, hs]; exact q1, fun n => ?_⟩
        simp only [List.cons_append, REs]
        exact ⟨_, _, rfl, r1, r2, q2 n⟩
      · refine .inr ⟨j + 1, y, e', ?_, by simpa using q2, q3, ?_⟩
        · simp only [Instr.findNow, hs]
          rw [show i + (j + 1) = i + 1 + j by omega]; exact q1
        · simp only [List.modify_succ_cons, REs]
          exact ⟨_, _, rfl, r1, r2, q4⟩

theorem setHeap_same {w : World} {b : Nat} {o o' : Go.Obj} (h : w.heap[b]? = some o) : ({ w with heap := w.heap.setIfInBounds b o' } : World).heap[b]? = some o' := by
  have := lt_of_heap h
  simp [this]
theorem setHeap_ne {w : World} {b b' : Nat} {o' : Go.Obj} (h : b' ≠ b) : ({ w with heap := w.heap.setIfInBounds b o' } : World).heap[b']? = w.heap[b']? := by
  simp [Array.getElem?_setIfInBounds_ne (fun e => h e.symm)]

theorem not_cells_F (h : Inv T A g st w) {b : Nat} {o : Go.Obj} (hb : w.heap[b]? = some o) (hn : ∀ vs ty fz, o ≠ .cells vs ty fz) (k : Nat) : g.F b k = none := by
  cases hf : g.F b k with
  | none => rfl
  | some v =>
    obtain ⟨vs, ty, fz, h2, _⟩ := cells_of (h.F b k v hf)
    rw [hb] at h2
    cases h2
    exact absurd rfl (hn vs ty fz)

theorem mapUpdate_sound (hT : TOk P T) {C : Caller} {t : TypeId} {m k v r : AV} {mv kv vv : Value} {p : Plan} {fx : Fx} (hp : mapUpdateP T t m k v = .ok p) (hrun : runPlan C st p = .ok (r, fx)) (hm : R g m mv) (hk : R g k kv) (hv : R g v vv) (h : Inv T A g st w) :
    r = undef ∧ GivesU P T A g w (fx.did.app st) (Instr.mapUpdate t mv kv vv) := by
  simp only [mapUpdateP, bind_ok] at hp
  obtain ⟨i, h1, h2⟩ := hp
  have hi := hT t i (ti_ok.1 h1)
  split at h2
  · rename_i kt et hu
    have k1 := und_map hi hu
    simp only [bind_ok] at h2
    obtain ⟨ki, h3, h4⟩ := h2
    have hki := hT _ ki (ti_ok.1 h3)
    obtain ⟨d, d1, d2, _⟩ := hki.und
    split at h4
    · rename_i id hok
      simp only [pure_ok] at h4
      subst h4
      simp only [runPlan, bind_ok, pure_ok] at hrun
      obtain ⟨o, g1, ⟨v', o'⟩, g2, dd, g5, g6⟩ := hrun
      split at g2
      · rename_i es
        simp only [bind_ok, pure_ok, Prod.mk.injEq] at g2
        obtain ⟨es', g3, rfl, rfl⟩ := g2
        simp only [didOf] at g5
        split at g5
        · cases g5
        · rename_i hro
          rw [blt_false] at hro
          simp only [Except.ok.injEq] at g5
          subst g5
          simp only [Prod.mk.injEq] at g6
          obtain ⟨rfl, rfl⟩ := g6
          refine ⟨rfl, ?_⟩
          simp only [R] at hm
          obtain ⟨b, hE, rfl⟩ := hm
          obtain ⟨b', ents, clk, q1, q2, q3, q4⟩ := h.H id _ g1
          have hb : b' = b := by have := q1.symm.trans hE; simpa using this
          subst hb
          have hgo : (getObj b').run P w = .ok (.map ents clk) w := by simp [getObj, Sem.run, q2]
          have hck := run_checkKey (w := w) d1 d2 hok hk false 9999
          have hF := fun kk => not_cells_F h q2 (by simp) kk
          have fin : ∀ ents' clk', REs g es' ents'.toList → (setObj b' (.map ents' clk')).run P w = .ok () { w with heap := w.heap.setIfInBounds b' (.map ents' clk') } ∧
              Inv T A g (st.put id (.map es')) { w with heap := w.heap.setIfInBounds b' (.map ents' clk') } ∧ Kp A g w g { w with heap := w.heap.setIfInBounds b' (.map ents' clk') } := fun ents' clk' hr => by
            refine ⟨by simp [setObj, Sem.run, q2], h.write g1 (o := .map es) (b := b') q1 (.map es') (by simp) (fun _ hb => setHeap_ne hb) (fun kk u hu => by rw [hF kk] at hu; cases hu) q4 (fun b'' hb'' => by
              have : g.E id = some (.blk b'') := hb''
              have := q1.symm.trans this
              simpa using this.symm) ⟨b', ents', clk', q1, setHeap_same q2, hr, q4⟩, Kp.write (h.own id _ b' g1 q1 hro) (by simp) (fun _ hb => setHeap_ne hb)⟩
          rcases setEntry_sound d2 hok hk hv 0 g3 q3 with ⟨e1, e2⟩ | ⟨j, y, e, e1, e2, e3, e4⟩
          · obtain ⟨f1, f2, f3⟩ := fin (ents.push { key := kv, val := vv, born := clk }) (clk + 1) (by simpa using e2 clk)
            refine ⟨g, _, ?_, f2, f3⟩
            simp only [Instr.mapUpdate, Sem.run_bind, k1, Result.andThen_ok, hgo, hck, run_findKey d1 e1, f1]
          · rw [Nat.zero_add] at e1
            obtain ⟨f1, f2, f3⟩ := fin (ents.modify j fun e => { e with key := kv, val := vv }) clk (by simpa [Array.toList_modify] using e4)
            refine ⟨g, _, ?_, f2, f3⟩
            have hkey : ((ents[j]?).map (·.key)).getD kv = e.key := by
              have : ents[j]? = some e := by simpa using e2
              simp [this]
            simp only [Instr.mapUpdate, Sem.run_bind, k1, Result.andThen_ok, hgo, hck, run_findKey d1 e1, hkey, Instr.keyThatStays, e3, if_true, Sem.run_pure, f1]
      · cases g2
    · cases h4
  · cases h2

theorem makeMap_sound (t : TypeId) (h : Inv T A g st w) : Gives P T A g w (.mm st.h) (st.new (.map [])).2 (Instr.makeMap t none) := by
  obtain ⟨k1, k2⟩ := h.newObj (.map []) (.map #[] 0) (fun b' hb' => by
    have : (g.setE st.h (.blk w.heap.size)).E st.h = some (.blk b') := hb'
    rw [Gh.setE_same] at this
    simpa using this.symm) ⟨w.heap.size, #[], 0, Gh.setE_same _ _ _, World.heap_alloc_new, by simp [REs], h.M_new (Nat.le_refl _)⟩
  exact ⟨.map (some w.heap.size), _, _, by simp [Instr.makeMap], by simp only [R]; exact ⟨_, Gh.setE_same _ _ _, rfl⟩, k1, k2⟩

theorem range_sound {t : TypeId} {i : TI} (hi : TIOk P t i) (hu : i.und = .str) {s : List UInt8} (h : Inv T A g st w) : Gives P T A g w (.mp st.h 0) (st.new (.sit s 0)).2 (Instr.range t (.string ⟨s.toArray⟩)) := by
  obtain ⟨k1, k2⟩ := h.newObj (.sit s 0) (.stringIter ⟨s.toArray⟩ 0) (fun b' hb' => by
    have : (g.setE st.h (.blk w.heap.size)).E st.h = some (.blk b') := hb'
    rw [Gh.setE_same] at this
    simpa using this.symm) ⟨w.heap.size, Gh.setE_same _ _ _, World.heap_alloc_new⟩
  exact ⟨.pointer (some ⟨w.heap.size, 0, none⟩), _, _, by simp [Instr.range, und_str hi hu], by simp only [R]; exact ⟨_, Gh.setE_same _ _ _, rfl⟩, k1, k2⟩

theorem next_sound {C : Caller} {x v : AV} {xv : Value} {ty : TypeId} {p : Plan} {fx : Fx} (hp : nextP x = .ok p) (hrun : runPlan C st p = .ok (v, fx)) (hx : R g x xv) (h : Inv T A g st w) :
    Gives P T A g w v (fx.did.app st) (Instr.next xv true ty) := by
  unfold nextP at hp
  split at hp
  · rename_i id
    simp only [Except.ok.injEq] at hp
    subst hp
    simp only [runPlan, bind_ok, pure_ok] at hrun
    obtain ⟨o, g1, ⟨v', o'⟩, g2, dd, g5, g6⟩ := hrun
    split at g2
    · rename_i s pos
      simp only [R] at hx
      obtain ⟨b, hE, rfl⟩ := hx
      obtain ⟨b', q1, q2⟩ := h.H id _ g1
      have hb : b' = b := by have := q1.symm.trans hE; simpa using this
      subst hb
      have hgo : (getObj b').run P w = .ok (.stringIter ⟨s.toArray⟩ pos) w := by simp [getObj, Sem.run, q2]
      split at g2
      · rename_i hlt
        rw [blt_true] at hlt
        simp only [Except.ok.injEq, Prod.mk.injEq] at g2
        obtain ⟨rfl, rfl⟩ := g2
        simp only [didOf] at g5
        split at g5
        · cases g5
        · rename_i hro
          rw [blt_false] at hro
          simp only [Except.ok.injEq] at g5
          subst g5
          simp only [Prod.mk.injEq] at g6
          obtain ⟨rfl, rfl⟩ := g6
          have hF := fun kk => not_cells_F h q2 (by simp) kk
          have hM : g.M b' = none := by
            cases hm : g.M b' with
            | none => rfl
            | some ee => have := h.M b' ee.1 ee.2 hm; rw [q2] at this; cases this
          refine ⟨.tuple #[.bool true, goInt pos, .int .i32 (decodeAt s pos).1], g, { w with heap := w.heap.setIfInBounds b' (.stringIter ⟨s.toArray⟩ (pos + (decodeAt s pos).2)) }, ?_, ?_, ?_, ?_⟩
          · have hlt' : pos < (⟨s.toArray⟩ : ByteArray).size := by rw [str_size]; exact hlt
            simp [Instr.next, hgo, hlt', setObj, Sem.run, q2, decodeAt]
          · simp only [R]
            exact ⟨_, rfl, RL_cons (by simp only [R]) (RL_cons (by simp only [R]; rfl) (RL_cons (by simp only [R]) RL_nil))⟩
          · exact h.write g1 (o := .sit s pos) (b := b') q1 _ (by simp) (fun _ hb => setHeap_ne hb) (fun kk u hu => by rw [hF kk] at hu; cases hu) hM (fun b'' hb'' => by
              have : g.E id = some (.blk b'') := hb''
              have := q1.symm.trans this
              simpa using this.symm) ⟨b', q1, setHeap_same q2⟩
          · exact Kp.write (h.own id _ b' g1 q1 hro) (by simp) (fun _ hb => setHeap_ne hb)
      · rename_i hlt
        rw [blt_false] at hlt
        simp only [Except.ok.injEq, Prod.mk.injEq] at g2
        obtain ⟨rfl, rfl⟩ := g2
        simp only [didOf, Except.ok.injEq] at g5
        subst g5
        simp only [Prod.mk.injEq] at g6
        obtain ⟨rfl, rfl⟩ := g6
        have hlt' : ¬ pos < (⟨s.toArray⟩ : ByteArray).size := by rw [str_size]; omega
        refine Gives.of h (x := .tuple #[.bool false]) (by simp [Instr.next, hgo, hlt']) ?_
        simp only [R]
        exact ⟨_, rfl, RL_cons (by simp only [R]) RL_nil⟩
    · cases g2
  · cases hp

end
end Go.VM
