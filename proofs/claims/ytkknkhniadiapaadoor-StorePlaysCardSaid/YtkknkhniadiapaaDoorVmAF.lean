/-
  A part of the proof.
-/
import Derived.Test.YtkknkhniadiapaaDoorVmAE
import Derived.Laws.IdiomStrings
namespace Go.VM
section
variable {P : Program} {T : TT} {A : Nat → Prop} {g : Gh} {st : St} {w : World}
theorem unOp_sound {op : UnOp} {a v : AV} {x : Value} (hp : unOp op a = .ok v) (hx : R g a x) (h : Inv T A g st w) : Gives P T A g w v st (Op.unary op x) := by
  unfold unOp at hp
  split at hp
  · simp only [Except.ok.injEq] at hp
    subst hp
    simp only [R] at hx
    subst hx
    exact Gives.of h (by simp only [Op.unary, Op.intArith]; rfl) (by simp only [R])
  · simp only [Except.ok.injEq] at hp
    subst hp
    simp only [R] at hx
    subst hx
    exact Gives.of h (by simp only [Op.unary]; rfl) (by simp only [R])
  · simp only [Except.ok.injEq] at hp
    subst hp
    simp only [R] at hx
    subst hx
    exact Gives.of h (by simp only [Op.unary, Op.intBits]; rfl) (by simp only [R])
  · cases hp
theorem bytesOf_cons {e : AV} {es : List AV} {bs : List UInt8} (h : bytesOf (e :: es) = .ok bs) : ∃ n bs', e = .int .u8 n ∧ bytesOf es = .ok bs' ∧ bs = UInt8.ofNat n.toNat :: bs' := by
  unfold bytesOf at h
  split at h
  · rename_i heq; cases heq
  · rename_i n l heq
    cases heq
    simp only [bind_ok, pure_ok] at h
    obtain ⟨bs', h1, rfl⟩ := h
    exact ⟨n, bs', rfl, h1, rfl⟩
  · cases h
theorem bytesOf_vals : ∀ {es : List AV} {bs : List UInt8} {xs : List Value}, bytesOf es = .ok bs → RL g es xs → ∃ ns : List Int, xs = ns.map (Value.int .u8) ∧ bs = ns.map fun n => UInt8.ofNat n.toNat
  | [], _, _, h, hr => by
    simp only [bytesOf, Except.ok.injEq] at h; subst h
    simp only [RL] at hr; subst hr
    exact ⟨[], rfl, rfl⟩
  | e :: es, bs, xs, h, hr => by
    simp only [RL] at hr
    obtain ⟨x, xs, rfl, h1, h2⟩ := hr
    obtain ⟨n, bs', rfl, h3, rfl⟩ := bytesOf_cons h
    obtain ⟨ns, rfl, rfl⟩ := bytesOf_vals h3 h2
    simp only [R] at h1
    subst h1
    exact ⟨n :: ns, rfl, rfl⟩
theorem fold_push (ns : List Int) : ∀ s : ByteArray, ns.foldl (fun r n => r.push (UInt8.ofNat n.toNat)) s = ⟨(s.data.toList ++ ns.map fun n => UInt8.ofNat n.toNat).toArray⟩ := by
  induction ns with
  | nil => intro s; simp
  | cons n ns ih =>
    intro s
    rw [List.foldl_cons, ih]
    simp [ByteArray.push]
theorem run_bytes {b o len cap : Nat} {es : List AV} {bs : List UInt8} {xs : List Value} (hb : bytesOf es = .ok bs) (hr : RL g es xs) (hm : ∀ k x, xs[k]? = some x → w.cell? ⟨b, o + k, none⟩ = some x) (hl : xs.length = len) :
    (Conv.bytesToString (.slice (some ⟨b, o, none⟩) len cap)).run P w = .ok (.string ⟨bs.toArray⟩) w := by
  obtain ⟨ns, rfl, rfl⟩ := bytesOf_vals hb hr
  have hload := run_loadCells_list (P := P) w ⟨b, o, none⟩ (ns.map (Value.int .u8)) (fun j x hx => by rw [Addr.add_at]; exact hm j x hx)
  rw [hl] at hload
  rw [run_bytesToString w _ len cap ns hload, fold_push]
  simp
theorem bytesOf_flat : ∀ {es : List AV} {bs : List UInt8}, bytesOf es = .ok bs → flat es = es
  | [], _, _ => rfl
  | e :: es, bs, h => by
    obtain ⟨n, bs', rfl, h3, rfl⟩ := bytesOf_cons h
    rw [flat_cons, bytesOf_flat h3]; rfl
theorem isByte_u8 {u : U} (h : isByte u = true) : u = .int .u8 := by
  cases u <;> simp [isByte] at h
  rename_i k
  cases k <;> simp_all
theorem convert_sound (hT : TOk P T) {C : Caller} {s d : TypeId} {a v : AV} {x : Value} {p : Plan} {fx : Fx} (hp : convertP T s d a = .ok p) (hrun : runPlan C st p = .ok (v, fx)) (hx : R g a x) (h : Inv T A g st w) :
    Gives P T A g w v (fx.did.app st) (Go.convert s d x) := by
  simp only [convertP, bind_ok] at hp
  obtain ⟨i, h1, j, h2, h3⟩ := hp
  have hi := hT s i (ti_ok.1 h1)
  have hj := hT d j (ti_ok.1 h2)
  obtain ⟨ds, q1, q2, _⟩ := hi.und
  split at h3
  · rename_i k _ n hu
    simp only [pure_ok] at h3
    subst h3
    simp only [runPlan, Except.ok.injEq, Prod.mk.injEq] at hrun
    obtain ⟨rfl, rfl⟩ := hrun
    simp only [R] at hx
    subst hx
    refine Gives.of h (x := .int k (k.wrap n)) ?_ (by simp only [R])
    simp [Go.convert, und_run q1, und_int hj hu, Conv.intToInt]
  · rename_i s' hu
    simp only [pure_ok] at h3
    subst h3
    simp only [runPlan, Except.ok.injEq, Prod.mk.injEq] at hrun
    obtain ⟨rfl, rfl⟩ := hrun
    simp only [R] at hx
    subst hx
    refine Gives.of h (x := .string ⟨s'.toArray⟩) ?_ (by simp only [R])
    simp [Go.convert, und_run q1, und_str hj hu]
  · rename_i k' _ n hu1 hu2
    split at h3
    · rename_i hb
      simp only [pure_ok] at h3
      subst h3
      simp only [runPlan, Except.ok.injEq, Prod.mk.injEq] at hrun
      obtain ⟨rfl, rfl⟩ := hrun
      simp only [R] at hx
      subst hx
      rw [Bool.and_eq_true] at hb
      have h0 := blt_true.1 hb.1
      have h1 := blt_true.1 hb.2
      refine Gives.of h (x := .string ⟨[UInt8.ofNat n.toNat].toArray⟩) ?_ (by simp only [R])
      have hv : Utf8.valid n = true := by unfold Utf8.valid; simp; omega
      have e : Utf8.encode n = ⟨[UInt8.ofNat n.toNat].toArray⟩ := by
        unfold Utf8.encode
        simp only [hv, if_true, h1]
        try rfl
      simp [Go.convert, und_run q1, und_str hj hu2, Conv.intToString, e]
    · cases h3
  · rename_i e hu1 hu2 _
    simp only [bind_ok] at h3
    obtain ⟨el, h4, h5⟩ := h3
    have hel := hT e el (ti_ok.1 h4)
    split at h5
    · cases h5
    · rename_i hby
      have hby := isByte_u8 hby
      obtain ⟨de, e1, e2, _⟩ := hel.und
      rw [hby] at e2
      simp only [UOk] at e2
      subst e2
      rw [hu1] at q2
      simp only [UOk] at q2
      subst q2
      obtain ⟨dd, d1, d2, _⟩ := hj.und
      rw [hu2] at d2
      simp only [UOk] at d2
      subst d2
      have conv := fun a l c => run_convert_bytes_string (P := P) w s d e a l c q1 e1 d1
      split at h5
      · simp only [pure_ok] at h5
        subst h5
        simp only [runPlan, Except.ok.injEq, Prod.mk.injEq] at hrun
        obtain ⟨rfl, rfl⟩ := hrun
        simp only [R] at hx
        subst hx
        refine Gives.of h (x := .string ⟨#[]⟩) ?_ (by simp only [R])
        rw [conv]; rfl
      · simp only [bind_ok, pure_ok] at h5
        obtain ⟨bs, h6, rfl⟩ := h5
        simp only [runPlan, Except.ok.injEq, Prod.mk.injEq] at hrun
        obtain ⟨rfl, rfl⟩ := hrun
        simp only [R] at hx
        obtain ⟨_, b, o, cap, rfl, _, hz, hr, _⟩ := hx
        rw [RAtE_iff, bytesOf_flat h6] at hr
        obtain ⟨xs, k1, k2⟩ := RAt_vals hr.2
        refine Gives.of h (x := .string ⟨bs.toArray⟩) ?_ (by simp only [R])
        rw [conv]
        exact run_bytes h6 k1 (fun k x hx => h.F _ _ _ (k2 k x hx).1) (RL_len k1)
      · rename_i id off z len cap _
        simp only [pure_ok] at h5
        subst h5
        simp only [readP, runPlan, bind_ok, pure_ok] at hrun
        obtain ⟨o, h1, ⟨v', o'⟩, ⟨v'', ⟨cs, h2, h3⟩, h4'⟩, dd, h5, h6⟩ := hrun
        rw [cellsOf_ok] at h2
        obtain ⟨ty, rfl⟩ := h2
        split at h3
        · rename_i hle
          have hle := Nat.le_of_ble_eq_true hle
          simp only [bind_ok, pure_ok] at h3
          obtain ⟨bs, h7, rfl⟩ := h3
          simp only [Prod.mk.injEq] at h4' h6
          obtain ⟨rfl, rfl⟩ := h4'
          simp only [didOf, Except.ok.injEq] at h5
          subst h5
          obtain ⟨rfl, rfl⟩ := h6
          simp only [R] at hx
          obtain ⟨b, o, hE, c', rfl, hc, hz1, ho, _⟩ := hx
          obtain ⟨b', vs, rest, ty2, k1, k2, k3, k4, k5, k6⟩ := h.cells h1
          have hb : b' = b := by have := k1.symm.trans hE; simpa using this
          subst hb
          have hrl := RL_take len (RL_drop off k3)
          refine Gives.of h (x := .string ⟨bs.toArray⟩) ?_ (by simp only [R])
          rw [conv]
          refine run_bytes h7 hrl (fun k x hx => ?_) (by rw [RL_len hrl]; simp; simp at hle; omega)
          have hk : k < len := by
            rcases Nat.lt_or_ge k len with q | q
            · exact q
            · rw [List.getElem?_eq_none (by simp; omega)] at hx; cases hx
          rw [ho (by omega)]
          rw [List.getElem?_take, if_pos hk, List.getElem?_drop] at hx
          exact cell_pre k2 (by simpa using hx)
        · cases h3
      · cases h5
  · rename_i e s' hu1 hu2
    simp only [bind_ok] at h3
    obtain ⟨el, h4, h5⟩ := h3
    have hel := hT e el (ti_ok.1 h4)
    split at h5
    · cases h5
    · rename_i hby
      have hby := isByte_u8 hby
      obtain ⟨de, e1, e2, _⟩ := hel.und
      rw [hby] at e2
      simp only [UOk] at e2
      subst e2
      obtain ⟨dd, d1, d2, _⟩ := hj.und
      rw [hu2] at d2
      simp only [UOk] at d2
      subst d2
      rw [hu1] at q2
      simp only [UOk] at q2
      subst q2
      simp only [pure_ok] at h5
      subst h5
      simp only [runPlan, Except.ok.injEq, Prod.mk.injEq] at hrun
      obtain ⟨rfl, rfl⟩ := hrun
      simp only [R] at hx
      subst hx
      have hrun := run_bytes_of_string (P := P) w s d e ⟨s'.toArray⟩ q1 d1 e1
      have hcap : s'.length ≤ grownCap w s'.length 0 e := grownCap_ge w _ _ _
      have hsz : (ByteArray.mk s'.toArray).size = s'.length := by simp [ByteArray.size]
      rw [hsz] at hrun
      have hF : ∀ o, 0 ≤ o → o < 0 + (s'.map fun b => Value.int .u8 (b.toNat : Int)).length → g.F w.heap.size o = none := fun o _ _ => h.F_new (Nat.le_refl _) o
      have hrl : RL g (ofBytes s') (s'.map fun b => Value.int .u8 (b.toNat : Int)) := by
        clear hrun hcap hsz hF
        induction s' with
        | nil => rfl
        | cons b l ih => exact ⟨_, _, rfl, by simp only [R], ih⟩
      refine ⟨_, g.addF w.heap.size 0 (s'.map fun b => Value.int .u8 (b.toNat : Int)), _, hrun, ?_, ?_, ?_⟩
      · simp only [R]
        refine ⟨?_, w.heap.size, 0, _, by rw [show (ofBytes s').length = s'.length from List.length_map _], ?_, Nat.le_refl _, ?_, trivial⟩
        · clear hrun hcap hsz hF hrl
          induction s' with
          | nil => rfl
          | cons b l ih => exact ih
        · rw [show (ofBytes s').length = s'.length from List.length_map _]; exact hcap
        · rw [RAtE_iff]
          refine ⟨fun v hv => ?_, ?_⟩
          · obtain ⟨b, _, rfl⟩ := List.mem_map.1 hv; rfl
          · have hfl : flat (ofBytes s') = ofBytes s' := by
              clear hrun hcap hsz hF hrl
              induction s' with
              | nil => rfl
              | cons b l ih => show AV.int .u8 _ :: flat (ofBytes l) = _; rw [ih]; rfl
            rw [hfl]
            exact RAt_of_vals (RL_mono (Le.addF hF) _ _ hrl) fun k x hx => ⟨Gh.addF_at g _ 0 _ k x hx, by obtain ⟨b, _, rfl⟩ := List.mem_map.1 (List.mem_of_getElem? hx); rfl⟩
      · refine (h.drew.alloc _).addF _ 0 _ hF (fun i v hv => ?_) (fun id o ho => h.not_new (Nat.le_refl _) id o ho) (fun _ _ o _ ho => by
          have hb : (w.drew.alloc (.cells (bytesRow ⟨s'.toArray⟩ (grownCap w s'.length 0 e)) e ((bytesRow ⟨s'.toArray⟩ (grownCap w s'.length 0 e)).size, (bytesRow ⟨s'.toArray⟩ (grownCap w s'.length 0 e)).size + 1))).heap[w.heap.size]? = _ := World.heap_alloc_new (w := w.drew)
          have hn : ¬ (bytesRow ⟨s'.toArray⟩ (grownCap w s'.length 0 e)).size ≤ o := by
            rw [Nat.zero_add, List.length_map] at ho
            simp only [bytesRow, Array.size_append, Array.size_map]
            simp only [List.size_toArray]
            omega
          unfold World.frozen?
          rw [hb]
          simp [hn])
        have hb : (w.drew.alloc (.cells (bytesRow ⟨s'.toArray⟩ (grownCap w s'.length 0 e)) e ((bytesRow ⟨s'.toArray⟩ (grownCap w s'.length 0 e)).size, (bytesRow ⟨s'.toArray⟩ (grownCap w s'.length 0 e)).size + 1))).heap[w.heap.size]? = _ := World.heap_alloc_new (w := w.drew)
        rw [cell_of hb]
        rw [Nat.zero_add]
        have hi : i < s'.length := by
          rcases Nat.lt_or_ge i s'.length with q | q
          · exact q
          · rw [List.getElem?_eq_none (by simpa using q)] at hv; cases hv
        rw [← hv]
        simp only [bytesRow]
        rw [Array.getElem?_append_left (by simpa using hi)]
        simp
      · exact ((Kp.drew A g w).trans (Kp.alloc _ h.drew)).trans (Kp.addF (h.up _ (Nat.le_refl _)) hF)
  · cases h3
theorem min2_sound {lower : Bool} {a b v : AV} {x y : Value} (hp : min2 lower a b = .ok v) (hx : R g a x) (hy : R g b y) :
    ∃ z, (if lower then Builtin.min2 x y else Builtin.max2 x y).run P w = .ok z w ∧ R g v z := by
  cases a <;> cases b <;> simp only [min2] at hp <;> (try (cases hp; done))
  simp only [Except.ok.injEq] at hp
  subst hp
  simp only [R] at hx hy
  subst hx hy
  cases lower
  · exact ⟨_, by simp only [Bool.false_eq_true, if_false, Builtin.max2]; rfl, by simp only [R]⟩
  · exact ⟨_, by simp only [if_true, Builtin.min2]; rfl, by simp only [R]⟩
end
end Go.VM
