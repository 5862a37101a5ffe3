/-
  A part of the proof.
-/
import Derived.Test.YthapbjoekpbhgaaGreatDoorVmAJ
/- What the combinators of shallow forms do, where their subjects are known. -/
namespace Go.VM
section
variable {β : Type}
@[simp] theorem letV_eq {α : Type} (a : α) (K : α → Option β) : letV a K = K a := id rfl
@[simp] theorem asI_int (k : IntKind) (n : Int) (K : Int → Option β) : asI k (.int k n) K = K n := by simp [asI]
@[simp] theorem asB_bool (b : Bool) (K : Bool → Option β) : asB (.bool b) K = K b := id rfl
@[simp] theorem asS_str (s : List UInt8) (K : List UInt8 → Option β) : asS (.str s) K = K s := id rfl
@[simp] theorem anyI_int (k : IntKind) (n : Int) (K : Int → Option β) : anyI (.int k n) K = K n := id rfl
@[simp] theorem unA_agg (cs : List AV) (K : List AV → Option β) : unA (.agg cs) K = K cs := id rfl
@[simp] theorem unT_tup (cs : List AV) (K : List AV → Option β) : unT (.tup cs) K = K cs := id rfl
@[simp] theorem unc_cons (v : AV) (l : List AV) (K : AV → List AV → Option β) : unc (v :: l) K = K v l := id rfl
@[simp] theorem un0_nil (K : Option β) : un0 [] K = K := id rfl
@[simp] theorem chk_true (K : Option β) : chk true K = K := id rfl
theorem chk_of {b : Bool} (h : b = true) (K : Option β) : chk b K = K := by rw [h]; rfl
@[simp] theorem ifB_true (x y : Option β) : ifB true x y = x := id rfl
@[simp] theorem ifB_false (x y : Option β) : ifB false x y = y := id rfl
@[simp] theorem ifB_decide (p : Prop) [Decidable p] (x y : Option β) : ifB (decide p) x y = if p then x else y := by
  by_cases h : p <;> simp [h]
@[simp] theorem ifB_beq (a b : Int) (x y : Option β) : ifB (a == b) x y = if a = b then x else y := by
  by_cases h : a = b
  · simp [h]
  · rw [beq_false_of_ne h]; simp [h]
@[simp] theorem ifB_bne (a b : Int) (x y : Option β) : ifB (a != b) x y = if a = b then y else x := by
  by_cases h : a = b
  · simp [h]
  · rw [bne, beq_false_of_ne h]; simp [h]
@[simp] theorem ifB_not (b : Bool) (x y : Option β) : ifB (!b) x y = ifB b y x := by cases b <;> rfl
@[simp] theorem bindO_ok {α : Type} (a : α) (K : α → Option β) : bindO (some a) K = K a := id rfl
@[simp] theorem onSum_inl {α : Type} (a : α) (K : α → Option β) : onSum (.inl a) K = K a := id rfl
@[simp] theorem onSum_inr {α : Type} (b : β) (K : α → Option β) : onSum (.inr b) K = some b := id rfl
@[simp] theorem sel2_zero (a : Option β) (b : Nat → Option β) : sel2 0 a b = a := id rfl
@[simp] theorem sel2_succ (n : Nat) (a : Option β) (b : Nat → Option β) : sel2 (n + 1) a b = b n := id rfl
@[simp] theorem sel2_one (a : Option β) (b : Nat → Option β) : sel2 1 a b = b 0 := id rfl
theorem asOne_of {v : AV} (h : one v = true) (K : Option β) : asOne v K = K := chk_of h K
@[simp] theorem asOne_bool (b : Bool) (K : Option β) : asOne (.bool b) K = K := id rfl
@[simp] theorem asOne_int (k : IntKind) (n : Int) (K : Option β) : asOne (.int k n) K = K := id rfl
@[simp] theorem asOne_str (s : List UInt8) (K : Option β) : asOne (.str s) K = K := id rfl
@[simp] theorem asOne_nils (K : Option β) : asOne .nils K = K := id rfl
@[simp] theorem asOne_sl (z : Nat) (e : List AV) (p : Perm) (K : Option β) : asOne (.sl z e p) K = K := id rfl
@[simp] theorem asOne_mp (i o : Nat) (K : Option β) : asOne (.mp i o) K = K := id rfl
@[simp] theorem asOne_ip (cs : List AV) (K : Option β) : asOne (.ip cs) K = K := id rfl
@[simp] theorem asOne_nilp (K : Option β) : asOne .nilp K = K := id rfl
@[simp] theorem asOne_mm (i : Nat) (K : Option β) : asOne (.mm i) K = K := id rfl
@[simp] theorem asOne_nilm (K : Option β) : asOne .nilm K = K := id rfl
@[simp] theorem asOne_fn (f : Fn) (a b : List AV) (K : Option β) : asOne (.fn f a b) K = K := id rfl
@[simp] theorem nthS_zero (v : AV) (l : List AV) (K : AV → Option β) : nthS (v :: l) 0 K = K v := id rfl
@[simp] theorem nthS_succ (v : AV) (l : List AV) (n : Nat) (K : AV → Option β) : nthS (v :: l) (n + 1) K = nthS l n K := id rfl
@[simp] theorem nthS_one (u v : AV) (l : List AV) (K : AV → Option β) : nthS (u :: v :: l) 1 K = K v := id rfl
@[simp] theorem nthS_two (u v w : AV) (l : List AV) (K : AV → Option β) : nthS (u :: v :: w :: l) 2 K = K w := id rfl
@[simp] theorem nthS_three (u v w x : AV) (l : List AV) (K : AV → Option β) : nthS (u :: v :: w :: x :: l) 3 K = K x := id rfl
@[simp] theorem nthS_four (u v w x y : AV) (l : List AV) (K : AV → Option β) : nthS (u :: v :: w :: x :: y :: l) 4 K = K y := id rfl
@[simp] theorem nthS_five (u v w x y z : AV) (l : List AV) (K : AV → Option β) : nthS (u :: v :: w :: x :: y :: z :: l) 5 K = K z := id rfl
@[simp] theorem fldA_ip (off : Nat) (cs : List AV) (K : AV → Option β) : fldA off (.ip cs) K = K (.ip (cs.drop off)) := id rfl
@[simp] theorem fldA_gp (off i n o : Nat) (K : AV → Option β) : fldA off (.gp i n o) K = K (.gp i n (o + off)) := id rfl
@[simp] theorem fldA_mp (off i o : Nat) (K : AV → Option β) : fldA off (.mp i o) K = K (.mp i (o + off)) := id rfl
/-- A value in cells. -/
def takeO (size : Nat) (agg : Bool) (cs : List AV) : Option AV := toO (takeCells size agg cs)
@[simp] theorem takeO_one (z : Nat) (v : AV) (l : List AV) : takeO z false (v :: l) = some v := id rfl
@[simp] theorem loadS_ip (z : Nat) (g : Bool) (cs : List AV) (st : St) (K : AV → List Nat → Option β) : loadS z g (.ip cs) st K = bindO (takeO z g cs) fun v => K v [] := by
  unfold loadS loadO takeO
  dsimp only
  cases takeCells z g cs <;> rfl
theorem loadS_mp {st : St} {i : Nat} {t : TypeId} {cs : List AV} (h : st.get i = .ok (.cells t cs)) (z : Nat) (g : Bool) (o : Nat) (K : AV → List Nat → Option β) : loadS z g (.mp i o) st K = bindO (takeO z g (cs.drop o)) fun v => K v [i] := by
  unfold loadS loadO takeO
  dsimp only
  rw [h]
  dsimp only
  cases takeCells z g (cs.drop o) <;> rfl
@[simp] theorem nnil_mp (i o : Nat) (K : Option β) : nnil (.mp i o) K = K := id rfl
@[simp] theorem nnil_ip (cs : List AV) (K : Option β) : nnil (.ip cs) K = K := id rfl
@[simp] theorem asOne_es (K : Option β) : asOne .es K = K := id rfl
@[simp] theorem fit1_es (K : AV → Option β) : fit1 .es K = K .es := id rfl
@[simp] theorem lenS_nils (K : Nat → Option β) : lenS .nils K = K 0 := id rfl
@[simp] theorem lenS_sl (z : Nat) (e : List AV) (p : Perm) (K : Nat → Option β) : lenS (.sl z e p) K = K e.length := id rfl
@[simp] theorem fit1_bool (b : Bool) (K : AV → Option β) : fit1 (.bool b) K = K (.bool b) := id rfl
@[simp] theorem fit1_int (k : IntKind) (n : Int) (K : AV → Option β) : fit1 (.int k n) K = K (.int k n) := id rfl
@[simp] theorem fit1_str (s : List UInt8) (K : AV → Option β) : fit1 (.str s) K = K (.str s) := id rfl
@[simp] theorem fit1_nils (K : AV → Option β) : fit1 .nils K = K .nils := id rfl
@[simp] theorem fit1_wide (z : Nat) (e : List AV) (K : AV → Option β) : fit1 (.sl z e .wide) K = K (.sl z e .wide) := id rfl
@[simp] theorem fit1_shut (z : Nat) (e : List AV) (K : AV → Option β) : fit1 (.sl z e .shut) K = K (.sl z e .shut) := id rfl
@[simp] theorem fit1_own (z k : Nat) (e : List AV) (K : AV → Option β) : fit1 (.sl z e (.own k)) K = K (.sl z e .wide) := id rfl
end
theorem nthO_of : ∀ {l : List AV} {n : Nat} {v : AV}, l[n]? = some v → nthO l n = some v
  | [], _, _, h => by simp at h
  | _ :: _, 0, _, h => by simpa [nthO] using h
  | _ :: l, n + 1, _, h => by simp only [nthO]; exact nthO_of (by simpa using h)
/-- A slice that nothing may be appended to in place. -/
def IsSl (z : Nat) (x : AV) (es : List AV) : Prop := es.length ≤ 9223372036854775807 ∧ (((x = .nils ∨ x = .es) ∧ es = []) ∨ x = .sl z es .shut ∨ x = .sl z es .wide)
namespace IsSl
variable {β : Type} {z : Nat} {x : AV} {es : List AV}
theorem nils : IsSl z .nils [] := ⟨by simp, .inl ⟨.inl rfl, rfl⟩⟩
theorem emp : IsSl z .es [] := ⟨by simp, .inl ⟨.inr rfl, rfl⟩⟩
theorem wide (h : es.length ≤ 9223372036854775807) : IsSl z (.sl z es .wide) es := ⟨h, .inr (.inr rfl)⟩
theorem shut (h : es.length ≤ 9223372036854775807) : IsSl z (.sl z es .shut) es := ⟨h, .inr (.inl rfl)⟩
theorem one (h : IsSl z x es) : VM.one x = true := by rcases h.2 with ⟨rfl | rfl, rfl⟩ | rfl | rfl <;> rfl
theorem bare (h : IsSl z x es) : VM.bare x = true := by rcases h.2 with ⟨rfl | rfl, rfl⟩ | rfl | rfl <;> rfl
theorem strip (h : IsSl z x es) : VM.strip x = x := by rcases h.2 with ⟨rfl | rfl, rfl⟩ | rfl | rfl <;> rfl
theorem asOne (h : IsSl z x es) (K : Option β) : asOne x K = K := asOne_of h.one K
theorem fit1 (h : IsSl z x es) (K : AV → Option β) : fit1 x K = K x := by rcases h.2 with ⟨rfl | rfl, rfl⟩ | rfl | rfl <;> rfl
theorem len (h : IsSl z x es) (K : Nat → Option β) : lenS x K = K es.length := by rcases h.2 with ⟨rfl | rfl, rfl⟩ | rfl | rfl <;> rfl
theorem elems (h : IsSl z x es) (K : List AV → Option β) : elemsS x K = K es := by rcases h.2 with ⟨rfl | rfl, rfl⟩ | rfl | rfl <;> rfl
theorem idx (h : IsSl z x es) {k : Nat} {v : AV} (hk : es[k]? = some v) (st : St) (K : AV → List Nat → Option β) : idxA z x (k : Int) st K = K (.ip v.cells) [] := by
  have hlt : k < es.length := (List.getElem?_eq_some_iff.1 hk).1
  have hz : z.beq z = true := Nat.beq_refl z
  have hi : insideO (k : Int) es.length = some k := by
    show (match k.blt es.length with | true => some k | false => none) = _
    rw [blt_true.2 hlt]
  have hn : nthO es k = some v := nthO_of hk
  have hlen := h.1
  rcases h.2 with ⟨rfl | rfl, rfl⟩ | rfl | rfl
  · simp at hlt
  · simp at hlt
  · simp only [idxA, idxO, hz, hi, hn, bindO_ok]
  · simp only [idxA, idxO, hz, hi, hn, bindO_ok]
theorem slice (h : IsSl z x es) {lo hi : Option Int} {l m : Nat} (hl : hiO lo m 0 = some l) (hh : hiO hi es.length es.length = some m) (K : AV → Option β) :
    ∃ x', IsSl z x' ((es.take m).drop l) ∧ sliceS z x lo hi none K = K x' := by
  have hz : z.beq z = true := Nat.beq_refl z
  have hlen := h.1
  rcases h.2 with ⟨rfl | rfl, rfl⟩ | rfl | rfl
  · have hh : hiO hi 0 0 = some m := hh
    refine ⟨.nils, ⟨by simp, .inl ⟨.inl rfl, by simp⟩⟩, ?_⟩
    simp only [sliceS, sliceO, show hiO none 0 0 = some 0 from rfl, hh, hl, bindO_ok]
  · have hh : hiO hi 0 0 = some m := hh
    refine ⟨.es, ⟨by simp, .inl ⟨.inr rfl, by simp⟩⟩, ?_⟩
    simp only [sliceS, sliceO, show hiO none 0 0 = some 0 from rfl, hh, hl, bindO_ok]
  · simp only [sliceS, sliceO, hz, hh, hl]
    cases e : m.beq es.length with
    | true =>
      have := Nat.eq_of_beq_eq_true e
      subst this
      exact ⟨.sl z (es.drop l) .shut, by simpa using IsSl.shut (z := z) (es := es.drop l) (by rw [List.length_drop]; omega), rfl⟩
    | false => exact ⟨_, IsSl.wide (by rw [List.length_drop, List.length_take]; omega), rfl⟩
  · simp only [sliceS, sliceO, hz, hh, hl]
    cases e : m.beq es.length with
    | true => exact ⟨_, IsSl.wide (by rw [List.length_drop, List.length_take]; omega), rfl⟩
    | false => exact ⟨_, IsSl.wide (by rw [List.length_drop, List.length_take]; omega), rfl⟩
end IsSl
theorem hiO_nat {k n d : Nat} (h : k ≤ n) : hiO (some (k : Int)) n d = some k := by
  show (match k.ble n with | true => some k | false => none) = _
  rw [Nat.ble_eq_true_of_le h]
theorem hiO_none {n d : Nat} : hiO none n d = some d := rfl
/-- A slice that may be appended to: an empty one, one without room, or the owner of its end. -/
def Own (st : St) (z : Nat) (e : TypeId) (v : AV) (es : List AV) : Prop :=
  st.ro ≤ st.h ∧ es.length ≤ 9223372036854775807 ∧ (((v = .nils ∨ v = .es) ∧ es = []) ∨ v = .sl z es .shut ∨ ∃ k, v = .sl z es (.own k) ∧ st.get k = .ok (.tok es.length e) ∧ st.ro ≤ k)
theorem Own.nils {st : St} (h : st.ro ≤ st.h) (z : Nat) (e : TypeId) : Own st z e .nils [] := ⟨h, by simp, .inl ⟨.inl rfl, rfl⟩⟩
theorem Own.emp {st : St} (h : st.ro ≤ st.h) (z : Nat) (e : TypeId) : Own st z e .es [] := ⟨h, by simp, .inl ⟨.inr rfl, rfl⟩⟩
theorem Own.shut {st : St} (h : st.ro ≤ st.h) {z : Nat} (e : TypeId) {es : List AV} (hl : es.length ≤ 9223372036854775807) : Own st z e (.sl z es .shut) es := ⟨h, hl, .inr (.inl rfl)⟩
theorem Own.one {st : St} {z : Nat} {e : TypeId} {v : AV} {es : List AV} (h : Own st z e v es) : VM.one v = true := by
  rcases h with ⟨_, _, ⟨rfl | rfl, _⟩ | rfl | ⟨k, rfl, _⟩⟩ <;> rfl
theorem St.get_add_new {st : St} {o : Obj} : (st.add o).get st.h = .ok o := St.get_new_ok.2 (.inl ⟨rfl, rfl⟩)
theorem St.get_add_old {st : St} {o : Obj} {j : Nat} {x : Obj} (h : st.get j = .ok x) : (st.add o).get j = .ok x := St.get_new_ok.2 (.inr ⟨(St.get_ok.1 h).1, h⟩)
/-- What else there is stays. -/
structure Keeps (st st' : St) (but : Nat → Prop) : Prop where
  ro : st'.ro = st.ro
  h : st.h ≤ st'.h
  old : ∀ j o, ¬ but j → st.get j = .ok o → st'.get j = .ok o
theorem Keeps.refl (st : St) (but : Nat → Prop) : Keeps st st but := ⟨rfl, Nat.le_refl _, fun _ _ _ h => h⟩
theorem Keeps.trans {a b c : St} {p : Nat → Prop} (h : Keeps a b p) (k : Keeps b c p) : Keeps a c p :=
  ⟨k.ro.trans h.ro, Nat.le_trans h.h k.h, fun j o hj hg => k.old j o hj (h.old j o hj hg)⟩
theorem Keeps.add (st : St) (o : Obj) (but : Nat → Prop) : Keeps st (st.add o) but := ⟨rfl, Nat.le_succ _, fun _ _ _ h => St.get_add_old h⟩
theorem Keeps.put {st : St} {i : Nat} {o : Obj} {but : Nat → Prop} (hb : but i) : Keeps st (st.put i o) but :=
  ⟨rfl, Nat.le_refl _, fun j x hj h => by
    have : i ≠ j := by rintro rfl; exact hj hb
    rw [St.get_put_ne this]; exact h⟩
/-- The owner of a slice's end. -/
def ownerOf (v : AV) (j : Nat) : Prop := ∃ z es, v = .sl z es (.own j)
theorem appS_of {β : Type} {z b : Nat} {e : TypeId} {s : AV} {new : List AV} {st : St} {v : AV} {st' : St} {x : Fx} (h : appO z b e s new st = some (v, st', x)) (K : Kv β) : appS z b e s new st K = K v st' x := by
  simp only [appS, outS, h, bindO_ok]
theorem Own.not {st : St} {z : Nat} {e : TypeId} {v : AV} {ws : List AV} {j : Nat} {t : TypeId} {cs : List AV} (h : Own st z e v ws) (hj : st.get j = .ok (.cells t cs)) : ¬ ownerOf v j := by
  rintro ⟨z, es, rfl⟩
  rcases h with ⟨_, _, ⟨h | h, _⟩ | h | ⟨k, h, hg, _⟩⟩
  · cases h
  · cases h
  · cases h
  · cases h; rw [hj] at hg; cases hg
theorem Own.put {st : St} {z : Nat} {e : TypeId} {v : AV} {ws : List AV} {j : Nat} {t t' : TypeId} {cs cs' : List AV} (h : Own st z e v ws) (hj : st.get j = .ok (.cells t cs)) : Own (st.put j (.cells t' cs')) z e v ws := by
  refine ⟨h.1, h.2.1, ?_⟩
  rcases h.2.2 with h | h | ⟨k, hk, hg, hr⟩
  · exact .inl h
  · exact .inr (.inl h)
  · refine .inr (.inr ⟨k, hk, ?_, hr⟩)
    have : j ≠ k := by rintro rfl; rw [hj] at hg; cases hg
    rw [St.get_put_ne this]; exact hg
theorem app_own {st : St} {z b : Nat} {e : TypeId} {v : AV} {es new : List AV} (h : Own st z e v es) (hn : new ≠ []) (hr : roomOk (es.length + new.length) ⟨.other, z, b, [], false, false⟩ = true) :
    ∃ v' st' x, appO z b e v new st = some (v', st', x) ∧ Own st' z e v' (es ++ new) ∧ Keeps st st' (ownerOf v) ∧ (∀ j, ownerOf v' j → ownerOf v j ∨ st.h ≤ j) := by
  have hlen : (es ++ new).length ≤ 9223372036854775807 := by
    simp only [roomOk, Bool.and_eq_true] at hr
    rw [List.length_append]; exact Nat.le_trans (Nat.le_of_ble_eq_true hr.2.2) (by omega)
  have hz : z.beq z = true := Nat.beq_refl z
  cases new with
  | nil => exact absurd rfl hn
  | cons a l =>
    have fresh : ∀ n, n = (es ++ a :: l).length → appO z b e v (a :: l) st = madeO st (.tok n e) (fun k => .sl z (es ++ a :: l) (.own k)) → ∃ v' st' x, appO z b e v (a :: l) st = some (v', st', x) ∧ Own st' z e v' (es ++ a :: l) ∧ Keeps st st' (ownerOf v) ∧ (∀ j, ownerOf v' j → ownerOf v j ∨ st.h ≤ j) := by
      intro n hn he
      refine ⟨.sl z (es ++ a :: l) (.own st.h), st.add (.tok n e), ⟨[], .made st.h (.tok n e)⟩, he, ⟨Nat.le_succ_of_le h.1, hlen, .inr (.inr ⟨st.h, rfl, ?_, h.1⟩)⟩, Keeps.add _ _ _, ?_⟩
      · rw [← hn]; exact St.get_add_new
      · rintro j ⟨z', es', e⟩; cases e; exact .inr (Nat.le_refl _)
    rcases h.2.2 with ⟨rfl | rfl, rfl⟩ | rfl | ⟨k, rfl, hg, hro⟩
    · simp only [List.length_nil, Nat.zero_add] at hr
      exact fresh (a :: l).length rfl (by simp only [appO, hr, List.nil_append])
    · simp only [List.length_nil, Nat.zero_add] at hr
      exact fresh (a :: l).length rfl (by simp only [appO, hr, List.nil_append])
    · exact fresh (es.length + (a :: l).length) (by rw [List.length_append]) (by simp only [appO, hr, hz, Bool.and_self])
    · have h1 : (es.length.beq es.length && Nat.beq e e) = true := by simp
      have h2 : (st.ro.ble k) = true := Nat.ble_eq_true_of_le hro
      refine ⟨.sl z (es ++ a :: l) (.own k), st.put k (.tok (es.length + (a :: l).length) e), ⟨[k], .wrote k (.tok (es.length + (a :: l).length) e)⟩, ?_, ⟨h.1, hlen, .inr (.inr ⟨k, rfl, ?_, hro⟩)⟩, Keeps.put ⟨z, es, rfl⟩, ?_⟩
      · simp only [appO, hr, hz, Bool.and_self, hg, h1, wroteO, h2]
      · rw [St.get_put_same (St.get_ok.1 hg).1, List.length_append]
      · rintro j ⟨z', es', e⟩; cases e; exact .inl ⟨_, _, rfl⟩
theorem frz_own {β : Type} {st : St} {z : Nat} {e : TypeId} {v : AV} {es : List AV} (h : Own st z e v es) : ∃ x, IsSl z x es ∧ ∀ (K : AV → Option β), frzS st 0 v K = K x := by
  rcases h with ⟨_, hl, ⟨rfl | rfl, rfl⟩ | rfl | ⟨k, rfl, _, _⟩⟩
  · exact ⟨.nils, IsSl.nils, fun _ => rfl⟩
  · exact ⟨.es, IsSl.emp, fun _ => rfl⟩
  · exact ⟨.sl z es .shut, IsSl.shut hl, fun _ => rfl⟩
  · exact ⟨.sl z es .wide, IsSl.wide hl, fun _ => rfl⟩
theorem callS_bare {β : Type} {E : Env} {f : FuncId} {args : List AV} {v : AV} (st : St) (K : Kv β) (hf : E.full f = false) (hs : args.map strip = args) (hb : bares args = true) (h : (orc E).bare f args = some v) :
    callS (orc E) f args st K = K v st q0 := by
  have h1 : (bares (args.map strip) && !(orc E).full f) = true := by
    rw [hs, hb]
    show (true && !E.full f) = true
    rw [hf]; rfl
  unfold callS outS callO
  rw [h1, hs, h]
  rfl
theorem callS_wide {β : Type} {E : Env} {f : FuncId} {args : List AV} {v : AV} {st st' : St} (K : Kv β) (hl : E.isLook f = false) (hb : (bares (args.map strip) && !E.full f) = false) (h : (orc E).wide f args st = some (v, st')) :
    callS (orc E) f args st K = K v st' ⟨[], .all st st'⟩ := by
  have h1 : (bares (args.map strip) && !(orc E).full f) = false := hb
  have h2 : (orc E).isLook f = false := hl
  unfold callS outS callO
  rw [h1, h2, h]
  rfl
theorem wrap_i64 {n : Int} (h1 : -9223372036854775808 ≤ n) (h2 : n ≤ 9223372036854775807) : IntKind.wrap .i64 n = n := by
  have e : IntKind.wrap .i64 n = if n % 18446744073709551616 ≥ 9223372036854775808 then n % 18446744073709551616 - 18446744073709551616 else n % 18446744073709551616 := by
    show (if (true && decide (n % (2 ^ 64 : Int) ≥ (2 ^ 63 : Int))) = true then n % (2 ^ 64 : Int) - (2 ^ 64 : Int) else n % (2 ^ 64 : Int)) = _
    simp
  rw [e]
  split <;> omega
theorem drop_cons {α : Type} {l m : List α} {i : Nat} {v : α} (h : l.drop i = v :: m) : l[i]? = some v ∧ l.drop (i + 1) = m ∧ i < l.length := by
  have h1 : (l.drop i)[0]? = some v := by rw [h]; rfl
  rw [List.getElem?_drop] at h1
  refine ⟨by simpa using h1, ?_, ?_⟩
  · rw [← List.drop_drop, h]; rfl
  · exact (List.getElem?_eq_some_iff.1 (by simpa using h1)).1
end Go.VM
/- Combinators of shallow forms: only what is asked next is looked at; slices as lists of data; loops by what holds at each head; what is frozen. -/
namespace Go.VM
open Go
section
variable {β α : Type}
@[congr] theorem letV_congr {a a' : α} {K : α → Option β} (h : a = a') : letV a K = letV a' K := by rw [h]
@[congr] theorem asI_congr {k : IntKind} {v v' : AV} {K : Int → Option β} (h : v = v') : asI k v K = asI k v' K := by rw [h]
@[congr] theorem asB_congr {v v' : AV} {K : Bool → Option β} (h : v = v') : asB v K = asB v' K := by rw [h]
@[congr] theorem asS_congr {v v' : AV} {K : List UInt8 → Option β} (h : v = v') : asS v K = asS v' K := by rw [h]
@[congr] theorem anyI_congr {v v' : AV} {K : Int → Option β} (h : v = v') : anyI v K = anyI v' K := by rw [h]
@[congr] theorem unA_congr {v v' : AV} {K : List AV → Option β} (h : v = v') : unA v K = unA v' K := by rw [h]
@[congr] theorem unT_congr {v v' : AV} {K : List AV → Option β} (h : v = v') : unT v K = unT v' K := by rw [h]
@[congr] theorem unc_congr {v v' : List AV} {K : AV → List AV → Option β} (h : v = v') : unc v K = unc v' K := by rw [h]
@[congr] theorem un0_congr {v v' : List AV} {K : Option β} (h : v = v') : un0 v K = un0 v' K := by rw [h]
@[congr] theorem chk_congr {v v' : Bool} {K : Option β} (h : v = v') : chk v K = chk v' K := by rw [h]
@[congr] theorem ifB_congr {v v' : Bool} {x y : Option β} (h : v = v') : ifB v x y = ifB v' x y := by rw [h]
@[congr] theorem bindO_congr {v v' : Option α} {K : α → Option β} (h : v = v') : bindO v K = bindO v' K := by rw [h]
@[congr] theorem onSum_congr {v v' : Sum α β} {K : α → Option β} (h : v = v') : onSum v K = onSum v' K := by rw [h]
@[congr] theorem sel2_congr {n n' : Nat} {a : Option β} {b : Nat → Option β} (h : n = n') : sel2 n a b = sel2 n' a b := by rw [h]
@[congr] theorem asOne_congr {v v' : AV} {K : Option β} (h : v = v') : asOne v K = asOne v' K := by rw [h]
@[congr] theorem nthS_congr {l l' : List AV} {n : Nat} {K : AV → Option β} (h : l = l') : nthS l n K = nthS l' n K := by rw [h]
@[congr] theorem fldA_congr {o : Nat} {v v' : AV} {K : AV → Option β} (h : v = v') : fldA o v K = fldA o v' K := by rw [h]
@[congr] theorem loadS_congr {z : Nat} {g : Bool} {v v' : AV} {st st' : St} {K : AV → List Nat → Option β} (h : v = v') (h' : st = st') : loadS z g v st K = loadS z g v' st' K := by rw [h, h']
@[congr] theorem fit1_congr {v v' : AV} {K : AV → Option β} (h : v = v') : fit1 v K = fit1 v' K := by rw [h]
@[congr] theorem nnil_congr {v v' : AV} {K : Option β} (h : v = v') : nnil v K = nnil v' K := by rw [h]
@[congr] theorem lenS_congr {v v' : AV} {K : Nat → Option β} (h : v = v') : lenS v K = lenS v' K := by rw [h]
@[congr] theorem elemsS_congr {v v' : AV} {K : List AV → Option β} (h : v = v') : elemsS v K = elemsS v' K := by rw [h]
@[congr] theorem idxA_congr {z : Nat} {v v' : AV} {i i' : Int} {st st' : St} {K : AV → List Nat → Option β} (h : v = v') (h1 : i = i') (h2 : st = st') : idxA z v i st K = idxA z v' i' st' K := by rw [h, h1, h2]
@[congr] theorem idxStr_congr {v v' : List UInt8} {i i' : Int} {K : UInt8 → Option β} (h : v = v') (h1 : i = i') : idxStr v i K = idxStr v' i' K := by rw [h, h1]
@[congr] theorem insideS_congr {i i' : Int} {n n' : Nat} {K : Nat → Option β} (h : i = i') (h1 : n = n') : insideS i n K = insideS i' n' K := by rw [h, h1]
@[congr] theorem uptoS_congr {i i' : Int} {n n' : Nat} {K : Nat → Option β} (h : i = i') (h1 : n = n') : uptoS i n K = uptoS i' n' K := by rw [h, h1]
@[congr] theorem sliceS_congr {z : Nat} {v v' : AV} {a a' b b' c c' : Option Int} {K : AV → Option β} (h : v = v') (h1 : a = a') (h2 : b = b') (h3 : c = c') : sliceS z v a b c K = sliceS z v' a' b' c' K := by rw [h, h1, h2, h3]
@[congr] theorem appS_congr {z b : Nat} {e : TypeId} {v v' : AV} {n n' : List AV} {st st' : St} {K : Kv β} (h : v = v') (h1 : n = n') (h2 : st = st') : appS z b e v n st K = appS z b e v' n' st' K := by rw [h, h1, h2]
@[congr] theorem fitTs_congr {g : Bool} {l l' : List AV} {K : List AV → Option β} (h : l = l') : fitTs g l K = fitTs g l' K := by rw [h]
@[congr] theorem callS_congr {O : Orc} {f : FuncId} {l l' : List AV} {st st' : St} {K : Kv β} (h : l = l') (h1 : st = st') : callS O f l st K = callS O f l' st' K := by rw [h, h1]
@[congr] theorem planS_congr {O : Orc} {p p' : Res Plan} {st st' : St} {K : Kv β} (h : p = p') (h1 : st = st') : planS O p st K = planS O p' st' K := by rw [h, h1]
@[congr] theorem callF_congr {O : Orc} {pr : FuncId → Option Prim} {f f' : AV} {l l' : List AV} {st st' : St} {K : Kv β} (h0 : f = f') (h : l = l') (h1 : st = st') : callF O pr f l st K = callF O pr f' l' st' K := by rw [h0, h, h1]
@[congr] theorem storeS_congr {O : Orc} {z : Nat} {a a' v v' : AV} {l l' : List AV} {st st' : St} {K : Kv β} (h0 : a = a') (h2 : v = v') (h : l = l') (h1 : st = st') : storeS O z a v l st K = storeS O z a' v' l' st' K := by rw [h0, h2, h, h1]
@[congr] theorem frzS_congr {st st' : St} {b : Nat} {v v' : AV} {K : AV → Option β} (h1 : st = st') (h : v = v') : frzS st b v K = frzS st' b v' K := by rw [h1, h]
@[congr] theorem made_congr {st st' : St} {o o' : Obj} {f : Nat → AV} {K : Kv β} (h1 : st = st') (h : o = o') : made st o f K = made st' o' f K := by rw [h1, h]
@[congr] theorem nilS_congr {u : U} {v v' w w' : AV} {K : Bool → Option β} (h : v = v') (h1 : w = w') : nilS u v w K = nilS u v' w' K := by rw [h, h1]
@[congr] theorem letSt_congr {a a' : St} {K : St → Option β} (h : a = a') : letSt a K = letSt a' K := by rw [h]
@[simp] theorem letSt_eq (a : St) (K : St → Option β) : letSt a K = K a := id rfl
end
theorem loopO_inl {σ β : Type} {F : σ → Option (Sum σ β)} {s s' : σ} (h : F s = some (.inl s')) : loopO F s = loopO F s' := by rw [loopO_eq, h]
theorem loopO_inr {σ β : Type} {F : σ → Option (Sum σ β)} {s : σ} {r : β} (h : F s = some (.inr r)) : loopO F s = some r := by rw [loopO_eq, h]
/-- What freezing leaves as it is. -/
def Fz (d : Nat) (v : AV) : Prop := ∀ st base n, d ≤ n → freeze st base n v = .ok v
theorem Fz.mono {d e : Nat} {v : AV} (h : Fz d v) (hd : d ≤ e) : Fz e v := fun st base n hn => h st base n (Nat.le_trans hd hn)
theorem storeS_at {β : Type} {O : Orc} {st : St} {id off : Nat} {t : TypeId} {old : List AV} {z : Nat} {v : AV} {cs : List AV} (hg : st.get id = .ok (.cells t old)) (hz : cs.length = z) (hl : off + cs.length ≤ old.length) (hro : st.ro ≤ id) (K : Kv β) :
    storeS O z (.mp id off) v cs st K = K undef (st.put id (.cells t (splice old off cs))) ⟨[id], .wrote id (.cells t (splice old off cs))⟩ := by
  have h1 : cs.length.beq z = true := by rw [hz]; exact Nat.beq_refl z
  simp only [storeS, outS, storeO, h1, hg, Nat.ble_eq_true_of_le hl, wroteO, Nat.ble_eq_true_of_le hro, bindO_ok, splS]
theorem splice_all {old cs : List AV} (h : cs.length = old.length) : splice old 0 cs = cs := by
  simp only [splice, List.take_zero, List.nil_append, Nat.zero_add]
  rw [h, List.drop_length, List.append_nil]
theorem St.add_h {st : St} {o : Obj} : (st.add o).h = st.h + 1 := rfl
theorem St.add_ro {st : St} {o : Obj} : (st.add o).ro = st.ro := rfl
/-- A local variable in a cell of its own, written at once. -/
theorem local_var {O : Orc} {st : St} {t : TypeId} {z : Nat} {old cs : List AV} (v : AV) (hl : old.length = z) (hc : cs.length = z) (hro : st.ro ≤ st.h) :
    ∃ st', st'.get st.h = .ok (.cells t cs) ∧ Keeps st st' (fun _ => False) ∧ st'.h = st.h + 1 ∧ ∃ fx, ∀ {β : Type} (K : Kv β), storeS O z (.mp st.h 0) v cs (st.add (.cells t old)) K = K undef st' fx := by
  have hg : (st.add (.cells t old)).get st.h = .ok (.cells t old) := St.get_add_new
  refine ⟨(st.add (.cells t old)).put st.h (.cells t cs), St.get_put_same (Nat.lt_succ_self _), ⟨rfl, Nat.le_succ _, fun j o _ hj => ?_⟩, rfl, ⟨[st.h], .wrote st.h (.cells t (splice old 0 cs))⟩, fun K => ?_⟩
  · have hlt := (St.get_ok.1 hj).1
    rw [St.get_put_ne (by omega)]
    exact St.get_add_old hj
  · rw [storeS_at hg hc (by omega) hro]
    rw [splice_all (by omega)]
theorem IsSl.cut {z : Nat} {x : AV} {es : List AV} (h : IsSl z x es) {lo hi : Option Int} {l m : Nat} (hl : hiO lo m 0 = some l) (hh : hiO hi es.length es.length = some m) :
    ∃ x', IsSl z x' ((es.take m).drop l) ∧ ∀ {β : Type} (K : AV → Option β), sliceS z x lo hi none K = K x' := by
  obtain ⟨x', hx, e⟩ := h.slice hl hh (some : AV → Option AV)
  refine ⟨x', hx, fun K => ?_⟩
  have e : bindO (sliceO z x lo hi none) some = some x' := e
  show bindO (sliceO z x lo hi none) K = _
  cases hs : sliceO z x lo hi none with
  | none => rw [hs] at e; cases e
  | some u => rw [hs] at e; cases e; rfl
@[simp] theorem apart_kept (r : List Nat) : apart ⟨r, .kept⟩ q0 = true := id rfl
@[simp] theorem apart_kept2 (r : List Nat) : apart q0 ⟨r, .kept⟩ = true := id rfl
theorem bare_agg {cs : List AV} : bare (.agg cs) = bares cs := rfl
end Go.VM
/- strings.Builder: what is written, and what it holds. -/
namespace Go.VM
open Go
/-- A builder's buffer. -/
def BufOk (st : St) (u8 : TypeId) (a : AV) (out : List UInt8) : Prop := (a = .nils ∧ out = []) ∨ ∃ k, a = .sl 1 (ofBytes out) (.own k) ∧ st.get k = .ok (.tok out.length u8) ∧ st.ro ≤ k ∧ out ≠ []
/-- A builder among other cells. -/
def IsB (st : St) (T u8 : TypeId) (p : Nat) (pre post : List AV) (out : List UInt8) : Prop :=
  ∃ a0 a1, st.get p = .ok (.cells T (pre ++ a0 :: a1 :: post)) ∧ (a0 = .nilp ∨ a0 = .mp p pre.length) ∧ BufOk st u8 a1 out ∧ st.ro ≤ p
/-- What else there is stays, but for owners of bytes. -/
structure KeepsB (st st' : St) (u8 : TypeId) (p : Nat) : Prop where
  ro : st'.ro = st.ro
  h : st.h ≤ st'.h
  old : ∀ j o, j ≠ p → (∀ n, o ≠ .tok n u8) → st.get j = .ok o → st'.get j = .ok o
theorem KeepsB.refl (st : St) (u8 : TypeId) (p : Nat) : KeepsB st st u8 p := ⟨rfl, Nat.le_refl _, fun _ _ _ _ h => h⟩
theorem KeepsB.trans {a b c : St} {u8 : TypeId} {p : Nat} (h : KeepsB a b u8 p) (k : KeepsB b c u8 p) : KeepsB a c u8 p :=
  ⟨k.ro.trans h.ro, Nat.le_trans h.h k.h, fun j o hj ho hg => k.old j o hj ho (h.old j o hj ho hg)⟩
theorem KeepsB.put {st : St} {u8 : TypeId} {p : Nat} {o : Obj} : KeepsB st (st.put p o) u8 p := ⟨rfl, Nat.le_refl _, fun j x hj _ hg => by rw [St.get_put_ne (fun e => hj e.symm)]; exact hg⟩
theorem IsB.keep {st st' : St} {T u8 : TypeId} {p : Nat} {pre post : List AV} {out : List UInt8} (h : IsB st T u8 p pre post out) (k : Keeps st st' fun _ => False) : IsB st' T u8 p pre post out := by
  obtain ⟨a0, a1, h1, h2, h3, h4⟩ := h
  refine ⟨a0, a1, k.old _ _ (fun h => h) h1, h2, ?_, by rw [k.ro]; exact h4⟩
  rcases h3 with h3 | ⟨j, e, hj, hr, hn⟩
  · exact .inl h3
  · exact .inr ⟨j, e, k.old _ _ (fun h => h) hj, by rw [k.ro]; exact hr, hn⟩
theorem BufOk.put {st : St} {u8 : TypeId} {a : AV} {out : List UInt8} {p : Nat} {T : TypeId} {cs cs' : List AV} (h : BufOk st u8 a out) (hp : st.get p = .ok (.cells T cs)) : BufOk (st.put p (.cells T cs')) u8 a out := by
  rcases h with h | ⟨k, h1, h2, h3, h4⟩
  · exact .inl h
  · refine .inr ⟨k, h1, ?_, h3, h4⟩
    have : p ≠ k := by rintro rfl; rw [hp] at h2; cases h2
    rw [St.get_put_ne this]; exact h2
theorem ofBytes_append (a b : List UInt8) : ofBytes (a ++ b) = ofBytes a ++ ofBytes b := List.map_append
theorem ofBytes_length (a : List UInt8) : (ofBytes a).length = a.length := List.length_map _
theorem strictBytes_of : ∀ (s : List UInt8), strictBytes (ofBytes s) = .ok s
  | [] => rfl
  | b :: l => by
    have ih := strictBytes_of l
    show (match b.toNat.blt 256 with | true => (do pure (UInt8.ofNat b.toNat :: (← strictBytes (ofBytes l))) : Res (List UInt8)) | false => .error "no byte") = _
    rw [blt_true.2 (UInt8.toNat_lt b), ih]
    show Except.ok (UInt8.ofNat b.toNat :: l) = _
    simp
section
variable {β : Type} {O : Orc}
theorem fitTs_bytes : ∀ (s : List UInt8) (K : List AV → Option β), fitTs false (ofBytes s) K = K (ofBytes s)
  | [], _ => rfl
  | b :: l, K => by
    show fit1 (.int .u8 b.toNat) (fun v' => fitTs false (ofBytes l) fun l' => K (v' :: l')) = _
    rw [fit1_int, fitTs_bytes l]; rfl
theorem sizes_bytes : ∀ (s : List UInt8), sizesOk 1 (ofBytes s) = true
  | [] => rfl
  | b :: l => by
    have := sizes_bytes l
    simp only [sizesOk, ofBytes, List.map_cons, List.all_cons] at this ⊢
    rw [this]; rfl
theorem nthAV_mid (pre post : List AV) (a : AV) : nthAV (pre ++ a :: post) pre.length = .ok a := by
  induction pre with
  | nil => rfl
  | cons v l ih => exact ih
theorem nthAV_mid1 (pre post : List AV) (a b : AV) : nthAV (pre ++ a :: b :: post) (pre.length + 1) = .ok b := by
  induction pre with
  | nil => rfl
  | cons v l ih => exact ih
theorem drop_mid1 (pre post : List AV) (a b : AV) : (pre ++ a :: b :: post).drop (pre.length + 1) = b :: post := by
  induction pre with
  | nil => rfl
  | cons v l ih => exact ih
theorem splice_mid (pre post : List AV) (a x : AV) : splice (pre ++ a :: post) pre.length [x] = pre ++ x :: post := by
  simp [splice, List.drop_append]
theorem splice_mid1 (pre post : List AV) (a b x : AV) : splice (pre ++ a :: b :: post) (pre.length + 1) [x] = pre ++ a :: x :: post := by
  have := splice_mid (pre ++ [a]) post b x
  simpa using this
/-- copyCheck: behind it the builder knows its place. -/
theorem copyCheck_ok {st : St} {L : List (TypeId × Nat × Nat)} {T u8 : TypeId} {p : Nat} {pre post : List AV} {out : List UInt8} (h : IsB st T u8 p pre post out) (hl : lies L T (pre ++ .nilp :: .nils :: post).length pre.length = true) :
    ∃ st' a1, st'.get p = .ok (.cells T (pre ++ .mp p pre.length :: a1 :: post)) ∧ BufOk st' u8 a1 out ∧ st'.ro ≤ p ∧ KeepsB st st' u8 p ∧ st'.h = st.h ∧ ∃ fx, ∀ {β : Type} (K : Kv β), planS O (primP (.copyCheck L) [.mp p pre.length]) st K = K (.tup []) st' fx := by
  obtain ⟨a0, a1, h1, h2, h3, h4⟩ := h
  have hl' : lies L T (pre ++ a0 :: a1 :: post).length pre.length = true := by simpa using hl
  rcases h2 with rfl | rfl
  · refine ⟨st.put p (.cells T (pre ++ .mp p pre.length :: a1 :: post)), a1, St.get_put_same (St.get_ok.1 h1).1, h3.put h1, h4, KeepsB.put, rfl, ⟨[p], .wrote p (.cells T (pre ++ .mp p pre.length :: a1 :: post))⟩, fun K => ?_⟩
    simp only [planS, outS, primP, planO, h1, typedOf, ok_bind, hl', nthAV_mid, pure_eq, splice_mid, wroteO, Nat.ble_eq_true_of_le h4, bindO_ok]
  · refine ⟨st, a1, h1, h3, h4, KeepsB.refl _ _ _, rfl, ⟨[p], .kept⟩, fun K => ?_⟩
    simp only [planS, outS, primP, planO, h1, typedOf, ok_bind, hl', nthAV_mid, pure_eq, Nat.beq_refl, Bool.and_self, bindO_ok]
theorem bstring_ok {st : St} {T u8 : TypeId} {p : Nat} {pre post : List AV} {out : List UInt8} (h : IsB st T u8 p pre post out) (ho : out.length < 4611686018427387904) (K : Kv β) :
    ∃ fx, planS O (primP (.builderString u8) [.mp p pre.length]) st K = K (.str out) st fx := by
  obtain ⟨a0, a1, h1, h2, h3, h4⟩ := h
  rcases h3 with ⟨rfl, rfl⟩ | ⟨k, rfl, hk, hr, hn⟩
  · refine ⟨⟨[], .looked⟩, ?_⟩
    simp only [planS, outS, primP, planO, h1, cellsOf, ok_bind, nthAV_mid1, pure_eq, bindO_ok]
  · refine ⟨⟨[], .looked⟩, ?_⟩
    have e1 : (ofBytes out).isEmpty = false := by
      cases out with
      | nil => exact absurd rfl hn
      | cons b l => rfl
    have e2 : (Nat.beq u8 u8 && Nat.beq out.length (ofBytes out).length && !(ofBytes out).isEmpty && Nat.blt out.length 4611686018427387904) = true := by
      rw [ofBytes_length, e1, blt_true.2 ho, Nat.beq_refl, Nat.beq_refl]; rfl
    simp only [planS, outS, primP, planO, h1, cellsOf, ok_bind, nthAV_mid1, pure_eq, bindO_ok, Nat.ble_eq_true_of_le hr, hk, e2, strictBytes_of]
/-- (*strings.Builder).WriteString. -/
noncomputable def bWrite (O : Orc) (L : List (TypeId × Nat × Nat)) (u8 : TypeId) : AV → AV → St → Option (AV × St) := fun x0 x1 st => asS x1 fun l0 => planS O (primP (Prim.copyCheck L) [x0]) st fun _x st2 _x_1 => chk (notNil x0) (fldA 1 x0 fun v4 =>
  loadS 1 false v4 st2 fun v5 _x => fitTs false (ofBytes l0) fun l7 => chk (sizesOk 1 l7) (appS 1 1 u8 v5 l7 st2 fun v8 st9 _x => chk (notNil x0) (fldA 1 x0 fun v11 => asOne v8 (asOne v8 (storeS
  O 1 v11 v8 [v8] st9 fun _x st13 _x_2 => some (AV.tup [AV.int .i64 (↑(List.length l0) : Int), AV.nili], st13))))))
theorem app_buf {st : St} {u8 : TypeId} {a : AV} {out s : List UInt8} (h : BufOk st u8 a out) (hl : out.length + s.length ≤ 70368744177664) (hro : st.ro ≤ st.h) :
    ∃ v st', BufOk st' u8 v (out ++ s) ∧ one v = true ∧ st'.ro = st.ro ∧ st.h ≤ st'.h ∧ (∀ j o, (∀ n, o ≠ .tok n u8) → st.get j = .ok o → st'.get j = .ok o) ∧ ∃ fx, ∀ {β : Type} (K : Kv β), appS 1 1 u8 a (ofBytes s) st K = K v st' fx := by
  have room : ∀ n, n ≤ 70368744177664 → roomOk n ⟨.other, 1, 1, [], false, false⟩ = true := fun n hn => by
    simp only [roomOk, Nat.mul_one, Nat.ble_eq_true_of_le hn]; rfl
  cases s with
  | nil =>
    refine ⟨a, st, by simpa using h, ?_, rfl, Nat.le_refl _, fun _ _ _ h => h, q0, fun K => ?_⟩
    · rcases h with ⟨rfl, _⟩ | ⟨k, rfl, _⟩ <;> rfl
    · rcases h with ⟨rfl, rfl⟩ | ⟨k, rfl, hk, hr, hn⟩ <;> rfl
  | cons b s =>
    rcases h with ⟨rfl, rfl⟩ | ⟨k, rfl, hk, hr, hn⟩
    · have hr := room (ofBytes (b :: s)).length (by rw [ofBytes_length]; simpa using hl)
      refine ⟨.sl 1 (ofBytes (b :: s)) (.own st.h), st.add (.tok (ofBytes (b :: s)).length u8), .inr ⟨st.h, rfl, ?_, hro, by simp⟩, rfl, rfl, Nat.le_succ _, fun j o _ hg => St.get_add_old hg, ⟨[], .made st.h (.tok (ofBytes (b :: s)).length u8)⟩, fun K => ?_⟩
      · rw [ofBytes_length]; exact St.get_add_new
      · exact appS_of (by simp only [ofBytes, List.map_cons] at hr ⊢; simp only [appO, hr]; rfl) K
    · have hr2 := room ((ofBytes out).length + (ofBytes (b :: s)).length) (by rw [ofBytes_length, ofBytes_length]; exact hl)
      refine ⟨.sl 1 (ofBytes (out ++ b :: s)) (.own k), st.put k (.tok ((ofBytes out).length + (ofBytes (b :: s)).length) u8), .inr ⟨k, rfl, ?_, hr, by simp⟩, rfl, rfl, Nat.le_refl _, fun j o ho hg => ?_, ⟨[k], .wrote k (.tok ((ofBytes out).length + (ofBytes (b :: s)).length) u8)⟩, fun K => ?_⟩
      · rw [St.get_put_same (St.get_ok.1 hk).1, ofBytes_length, ofBytes_length, List.length_append]
      · have : k ≠ j := by rintro rfl; rw [hk] at hg; cases hg; exact ho _ rfl
        rw [St.get_put_ne this]; exact hg
      · have e1 : (Nat.beq out.length (ofBytes out).length && Nat.beq u8 u8) = true := by rw [ofBytes_length, Nat.beq_refl, Nat.beq_refl]; rfl
        have e2 : Nat.beq 1 1 = true := rfl
        refine appS_of ?_ K
        rw [ofBytes_append]
        simp only [ofBytes, List.map_cons] at hr2 e1 ⊢
        simp only [appO, hr2, e2, Bool.and_self, hk, e1, wroteO, Nat.ble_eq_true_of_le hr]
theorem bWrite_ok {st : St} {L : List (TypeId × Nat × Nat)} {T u8 : TypeId} {p : Nat} {pre post : List AV} {out s : List UInt8} (h : IsB st T u8 p pre post out) (hl : lies L T (pre ++ .nilp :: .nils :: post).length pre.length = true)
    (hlen : out.length + s.length ≤ 70368744177664) (hro : st.ro ≤ st.h) :
    ∃ st', bWrite O L u8 (.mp p pre.length) (.str s) st = some (.tup [.int .i64 (s.length : Int), .nili], st') ∧ IsB st' T u8 p pre post (out ++ s) ∧ KeepsB st st' u8 p := by
  obtain ⟨st2, a1, h1, h2, h3, h4, hh, fx, hcc⟩ := copyCheck_ok (O := O) h hl
  obtain ⟨v, st3, b1, b2, b3, b4, b5, fx2, happ⟩ := app_buf (s := s) h2 hlen (by rw [h4.ro, hh]; exact hro)
  have hp3 := b5 p _ (by intro n; simp) h1
  have hst := fun (K : Kv (AV × St)) => storeS_at (O := O) (z := 1) (v := v) (cs := [v]) (off := pre.length + 1) hp3 rfl (by simp; omega) (by rw [b3]; exact h3) K
  refine ⟨st3.put p (.cells T (pre ++ .mp p pre.length :: v :: post)), ?_, ⟨_, v, St.get_put_same (St.get_ok.1 hp3).1, .inr rfl, b1.put hp3, by show st3.ro ≤ p; rw [b3]; exact h3⟩, ?_⟩
  · simp only [bWrite, asS_str, hcc, notNil, chk_true, fldA_mp, loadS_mp h1, drop_mid1, takeO_one, bindO_ok, fitTs_bytes, sizes_bytes, happ, asOne_of b2, hst, splice_mid1]
  · exact h4.trans ⟨b3, b4, fun j o hj ho hg => by
      rw [St.get_put_ne (fun e => hj e.symm)]; exact b5 j o ho hg⟩
end
end Go.VM
/- The value machine once more, in a form that the kernel runs fast. -/
namespace Go.VM
/- Frames: sixteen by sixteen by four. -/
structure N16 (α : Type) where
  (a0 a1 a2 a3 a4 a5 a6 a7 a8 a9 a10 a11 a12 a13 a14 a15 : α)
structure SN16 (α : Type) where
  g : N16 α → α
  p : N16 α → α → N16 α
noncomputable def N16.s0 {α : Type} : SN16 α :=
  ⟨fun n => n.a0, fun n x => N16.rec (motive := fun _ => N16 α) (fun _ a1 a2 a3 a4 a5 a6 a7 a8 a9 a10 a11 a12 a13 a14 a15 => ⟨x, a1, a2, a3, a4, a5, a6, a7, a8, a9, a10, a11, a12, a13, a14, a15⟩) n⟩
noncomputable def N16.s1 {α : Type} : SN16 α :=
  ⟨fun n => n.a1, fun n x => N16.rec (motive := fun _ => N16 α) (fun a0 _ a2 a3 a4 a5 a6 a7 a8 a9 a10 a11 a12 a13 a14 a15 => ⟨a0, x, a2, a3, a4, a5, a6, a7, a8, a9, a10, a11, a12, a13, a14, a15⟩) n⟩
noncomputable def N16.s2 {α : Type} : SN16 α :=
  ⟨fun n => n.a2, fun n x => N16.rec (motive := fun _ => N16 α) (fun a0 a1 _ a3 a4 a5 a6 a7 a8 a9 a10 a11 a12 a13 a14 a15 => ⟨a0, a1, x, a3, a4, a5, a6, a7, a8, a9, a10, a11, a12, a13, a14, a15⟩) n⟩
noncomputable def N16.s3 {α : Type} : SN16 α :=
  ⟨fun n => n.a3, fun n x => N16.rec (motive := fun _ => N16 α) (fun a0 a1 a2 _ a4 a5 a6 a7 a8 a9 a10 a11 a12 a13 a14 a15 => ⟨a0, a1, a2, x, a4, a5, a6, a7, a8, a9, a10, a11, a12, a13, a14, a15⟩) n⟩
noncomputable def N16.s4 {α : Type} : SN16 α :=
  ⟨fun n => n.a4, fun n x => N16.rec (motive := fun _ => N16 α) (fun a0 a1 a2 a3 _ a5 a6 a7 a8 a9 a10 a11 a12 a13 a14 a15 => ⟨a0, a1, a2, a3, x, a5, a6, a7, a8, a9, a10, a11, a12, a13, a14, a15⟩) n⟩
noncomputable def N16.s5 {α : Type} : SN16 α :=
  ⟨fun n => n.a5, fun n x => N16.rec (motive := fun _ => N16 α) (fun a0 a1 a2 a3 a4 _ a6 a7 a8 a9 a10 a11 a12 a13 a14 a15 => ⟨a0, a1, a2, a3, a4, x, a6, a7, a8, a9, a10, a11, a12, a13, a14, a15⟩) n⟩
noncomputable def N16.s6 {α : Type} : SN16 α :=
  ⟨fun n => n.a6, fun n x => N16.rec (motive := fun _ => N16 α) (fun a0 a1 a2 a3 a4 a5 _ a7 a8 a9 a10 a11 a12 a13 a14 a15 => ⟨a0, a1, a2, a3, a4, a5, x, a7, a8, a9, a10, a11, a12, a13, a14, a15⟩) n⟩
noncomputable def N16.s7 {α : Type} : SN16 α :=
  ⟨fun n => n.a7, fun n x => N16.rec (motive := fun _ => N16 α) (fun a0 a1 a2 a3 a4 a5 a6 _ a8 a9 a10 a11 a12 a13 a14 a15 => ⟨a0, a1, a2, a3, a4, a5, a6, x, a8, a9, a10, a11, a12, a13, a14, a15⟩) n⟩
noncomputable def N16.s8 {α : Type} : SN16 α :=
  ⟨fun n => n.a8, fun n x => N16.rec (motive := fun _ => N16 α) (fun a0 a1 a2 a3 a4 a5 a6 a7 _ a9 a10 a11 a12 a13 a14 a15 => ⟨a0, a1, a2, a3, a4, a5, a6, a7, x, a9, a10, a11, a12, a13, a14, a15⟩) n⟩
noncomputable def N16.s9 {α : Type} : SN16 α :=
  ⟨fun n => n.a9, fun n x => N16.rec (motive := fun _ => N16 α) (fun a0 a1 a2 a3 a4 a5 a6 a7 a8 _ a10 a11 a12 a13 a14 a15 => ⟨a0, a1, a2, a3, a4, a5, a6, a7, a8, x, a10, a11, a12, a13, a14, a15⟩) n⟩
noncomputable def N16.s10 {α : Type} : SN16 α :=
  ⟨fun n => n.a10, fun n x => N16.rec (motive := fun _ => N16 α) (fun a0 a1 a2 a3 a4 a5 a6 a7 a8 a9 _ a11 a12 a13 a14 a15 => ⟨a0, a1, a2, a3, a4, a5, a6, a7, a8, a9, x, a11, a12, a13, a14, a15⟩) n⟩
noncomputable def N16.s11 {α : Type} : SN16 α :=
  ⟨fun n => n.a11, fun n x => N16.rec (motive := fun _ => N16 α) (fun a0 a1 a2 a3 a4 a5 a6 a7 a8 a9 a10 _ a12 a13 a14 a15 => ⟨a0, a1, a2, a3, a4, a5, a6, a7, a8, a9, a10, x, a12, a13, a14, a15⟩) n⟩
noncomputable def N16.s12 {α : Type} : SN16 α :=
  ⟨fun n => n.a12, fun n x => N16.rec (motive := fun _ => N16 α) (fun a0 a1 a2 a3 a4 a5 a6 a7 a8 a9 a10 a11 _ a13 a14 a15 => ⟨a0, a1, a2, a3, a4, a5, a6, a7, a8, a9, a10, a11, x, a13, a14, a15⟩) n⟩
noncomputable def N16.s13 {α : Type} : SN16 α :=
  ⟨fun n => n.a13, fun n x => N16.rec (motive := fun _ => N16 α) (fun a0 a1 a2 a3 a4 a5 a6 a7 a8 a9 a10 a11 a12 _ a14 a15 => ⟨a0, a1, a2, a3, a4, a5, a6, a7, a8, a9, a10, a11, a12, x, a14, a15⟩) n⟩
noncomputable def N16.s14 {α : Type} : SN16 α :=
  ⟨fun n => n.a14, fun n x => N16.rec (motive := fun _ => N16 α) (fun a0 a1 a2 a3 a4 a5 a6 a7 a8 a9 a10 a11 a12 a13 _ a15 => ⟨a0, a1, a2, a3, a4, a5, a6, a7, a8, a9, a10, a11, a12, a13, x, a15⟩) n⟩
noncomputable def N16.s15 {α : Type} : SN16 α :=
  ⟨fun n => n.a15, fun n x => N16.rec (motive := fun _ => N16 α) (fun a0 a1 a2 a3 a4 a5 a6 a7 a8 a9 a10 a11 a12 a13 a14 _ => ⟨a0, a1, a2, a3, a4, a5, a6, a7, a8, a9, a10, a11, a12, a13, a14, x⟩) n⟩
noncomputable def N16.sel {α : Type} : Nat → SN16 α
  | 0 => N16.s0
  | 1 => N16.s1
  | 2 => N16.s2
  | 3 => N16.s3
  | 4 => N16.s4
  | 5 => N16.s5
  | 6 => N16.s6
  | 7 => N16.s7
  | 8 => N16.s8
  | 9 => N16.s9
  | 10 => N16.s10
  | 11 => N16.s11
  | 12 => N16.s12
  | 13 => N16.s13
  | 14 => N16.s14
  | _ => N16.s15
def N16.list {α : Type} (n : N16 α) : List α := [n.a0, n.a1, n.a2, n.a3, n.a4, n.a5, n.a6, n.a7, n.a8, n.a9, n.a10, n.a11, n.a12, n.a13, n.a14, n.a15]
structure N4 (α : Type) where
  (a0 a1 a2 a3 : α)
structure SN4 (α : Type) where
  g : N4 α → α
  p : N4 α → α → N4 α
noncomputable def N4.s0 {α : Type} : SN4 α :=
  ⟨fun n => n.a0, fun n x => N4.rec (motive := fun _ => N4 α) (fun _ a1 a2 a3 => ⟨x, a1, a2, a3⟩) n⟩
noncomputable def N4.s1 {α : Type} : SN4 α :=
  ⟨fun n => n.a1, fun n x => N4.rec (motive := fun _ => N4 α) (fun a0 _ a2 a3 => ⟨a0, x, a2, a3⟩) n⟩
noncomputable def N4.s2 {α : Type} : SN4 α :=
  ⟨fun n => n.a2, fun n x => N4.rec (motive := fun _ => N4 α) (fun a0 a1 _ a3 => ⟨a0, a1, x, a3⟩) n⟩
noncomputable def N4.s3 {α : Type} : SN4 α :=
  ⟨fun n => n.a3, fun n x => N4.rec (motive := fun _ => N4 α) (fun a0 a1 a2 _ => ⟨a0, a1, a2, x⟩) n⟩
noncomputable def N4.sel {α : Type} : Nat → SN4 α
  | 0 => N4.s0
  | 1 => N4.s1
  | 2 => N4.s2
  | _ => N4.s3
def N4.list {α : Type} (n : N4 α) : List α := [n.a0, n.a1, n.a2, n.a3]
abbrev Frm := N4 (N16 (N16 AV))
/-- A place in a frame. -/
structure Pl where
  g : Frm → AV
  p : Frm → AV → Frm
noncomputable def plOf (a : SN16 AV) (b : SN16 (N16 AV)) (c : SN4 (N16 (N16 AV))) : Pl :=
  SN16.rec (motive := fun _ => Pl) (fun g1 p1 => SN16.rec (motive := fun _ => Pl) (fun g2 p2 => SN4.rec (motive := fun _ => Pl) (fun g3 p3 =>
    ⟨fun f => g1 (g2 (g3 f)), fun f v => p3 f (p2 (g3 f) (p1 (g2 (g3 f)) v))⟩) c) b) a
noncomputable def pl (n : Nat) : Pl := plOf (N16.sel (n % 16)) (N16.sel (n / 16 % 16)) (N4.sel (n / 256))
noncomputable def nil16 {α : Type} (x : α) : N16 α := ⟨x, x, x, x, x, x, x, x, x, x, x, x, x, x, x, x⟩
noncomputable def nilF : Frm := (fun y : N16 (N16 AV) => ⟨y, y, y, y⟩) (nil16 (nil16 undef))
noncomputable def getP (p : Pl) : Frm → AV := Pl.rec (motive := fun _ => Frm → AV) (fun g _ => g) p
noncomputable def putP (p : Pl) : Frm → AV → Frm := Pl.rec (motive := fun _ => Frm → AV → Frm) (fun _ q => q) p
/-- Where a result goes. -/
abbrev KD := Option (Frm → AV → Frm)
noncomputable def putD (d : KD) (t : Frm) (v : AV) : Frm :=
  Option.rec (motive := fun _ => Frm) t (fun q => q t v) d
/-- What a frame holds at a number. -/
noncomputable def kget (t : Frm) (n : Nat) : AV := match n.blt 1000 with
  | true => getP (pl n) t
  | false => undef
def trOf : Nat → (Nat → AV) → Tr AV
  | 0, _ => .leaf
  | d + 1, f => .node (some (f 0)) (trOf d fun k => f (2 * k + 1)) (trOf d fun k => f (2 * k + 2))
noncomputable def toFr (n : Nat) (t : Frm) : Fr := ⟨n, trOf 10 (kget t), false⟩
/- Of values. -/
noncomputable def boolK (v : AV) : (Bool → Bool) → Bool :=
  AV.rec (motive_1 := fun _ => (Bool → Bool) → Bool) (motive_2 := fun _ => Unit) (motive_3 := fun _ => Unit) (motive_4 := fun _ => Unit)
    (fun b k => k b) (fun _ _ _ => false) (fun _ _ => false) (fun _ _ _ => false) (fun _ => false) (fun _ _ _ => false) (fun _ _ _ => false) (fun _ => false) (fun _ _ _ _ _ => false) (fun _ _ _ _ _ _ => false) (fun _ => false) (fun _ _ => false) (fun _ _ _ => false) (fun _ _ _ _ _ _ => false) (fun _ => false) (fun _ _ _ _ => false) (fun _ => false) (fun _ _ _ => false) (fun _ _ _ => false) (fun _ _ _ _ => false) (fun _ _ _ _ => false) (fun _ => false) (fun _ _ => false) (fun _ _ => false) () (fun _ _ _ _ => ()) () (fun _ _ _ _ => ()) (fun _ _ _ _ => ()) v
noncomputable def intK (v : AV) : (IntKind → Int → Bool) → Bool :=
  AV.rec (motive_1 := fun _ => (IntKind → Int → Bool) → Bool) (motive_2 := fun _ => Unit) (motive_3 := fun _ => Unit) (motive_4 := fun _ => Unit)
    (fun _ _ => false) (fun a n k => k a n) (fun _ _ => false) (fun _ _ _ => false) (fun _ => false) (fun _ _ _ => false) (fun _ _ _ => false) (fun _ => false) (fun _ _ _ _ _ => false) (fun _ _ _ _ _ _ => false) (fun _ => false) (fun _ _ => false) (fun _ _ _ => false) (fun _ _ _ _ _ _ => false) (fun _ => false) (fun _ _ _ _ => false) (fun _ => false) (fun _ _ _ => false) (fun _ _ _ => false) (fun _ _ _ _ => false) (fun _ _ _ _ => false) (fun _ => false) (fun _ _ => false) (fun _ _ => false) () (fun _ _ _ _ => ()) () (fun _ _ _ _ => ()) (fun _ _ _ _ => ()) v
noncomputable def natK (v : AV) : (Nat → Bool) → Bool :=
  AV.rec (motive_1 := fun _ => (Nat → Bool) → Bool) (motive_2 := fun _ => Unit) (motive_3 := fun _ => Unit) (motive_4 := fun _ => Unit)
    (fun _ _ => false) (fun _ n k => Int.rec (motive := fun _ => Bool) (fun m => k m) (fun _ => false) n) (fun _ _ => false) (fun _ _ _ => false) (fun _ => false) (fun _ _ _ => false) (fun _ _ _ => false) (fun _ => false) (fun _ _ _ _ _ => false) (fun _ _ _ _ _ _ => false) (fun _ => false) (fun _ _ => false) (fun _ _ _ => false) (fun _ _ _ _ _ _ => false) (fun _ => false) (fun _ _ _ _ => false) (fun _ => false) (fun _ _ _ => false) (fun _ _ _ => false) (fun _ _ _ _ => false) (fun _ _ _ _ => false) (fun _ => false) (fun _ _ => false) (fun _ _ => false) () (fun _ _ _ _ => ()) () (fun _ _ _ _ => ()) (fun _ _ _ _ => ()) v
noncomputable def strK (v : AV) : (List UInt8 → Bool) → Bool :=
  AV.rec (motive_1 := fun _ => (List UInt8 → Bool) → Bool) (motive_2 := fun _ => Unit) (motive_3 := fun _ => Unit) (motive_4 := fun _ => Unit)
    (fun _ _ => false) (fun _ _ _ => false) (fun s k => k s) (fun _ _ _ => false) (fun _ => false) (fun _ _ _ => false) (fun _ _ _ => false) (fun _ => false) (fun _ _ _ _ _ => false) (fun _ _ _ _ _ _ => false) (fun _ => false) (fun _ _ => false) (fun _ _ _ => false) (fun _ _ _ _ _ _ => false) (fun _ => false) (fun _ _ _ _ => false) (fun _ => false) (fun _ _ _ => false) (fun _ _ _ => false) (fun _ _ _ _ => false) (fun _ _ _ _ => false) (fun _ => false) (fun _ _ => false) (fun _ _ => false) () (fun _ _ _ _ => ()) () (fun _ _ _ _ => ()) (fun _ _ _ _ => ()) v
noncomputable def adrK (v : AV) : (List AV → Bool) → (Nat → Nat → Bool) → Bool :=
  AV.rec (motive_1 := fun _ => (List AV → Bool) → (Nat → Nat → Bool) → Bool) (motive_2 := fun _ => Unit) (motive_3 := fun _ => Unit) (motive_4 := fun _ => Unit)
    (fun _ _ _ => false) (fun _ _ _ _ => false) (fun _ _ _ => false) (fun _ _ _ _ => false) (fun _ _ => false) (fun c _ k0 _ => k0 c) (fun i o _ k1 => k1 i o) (fun _ _ => false) (fun _ _ _ _ _ _ => false) (fun _ _ _ _ _ _ _ => false) (fun _ _ => false) (fun _ _ _ => false) (fun _ _ _ _ => false) (fun _ _ _ _ _ _ _ => false) (fun _ _ => false) (fun _ _ _ _ _ => false) (fun _ _ => false) (fun _ _ _ _ => false) (fun _ _ _ _ => false) (fun _ _ _ _ _ => false) (fun _ _ _ _ _ => false) (fun _ _ => false) (fun _ _ _ => false) (fun _ _ _ => false) () (fun _ _ _ _ => ()) () (fun _ _ _ _ => ()) (fun _ _ _ _ => ()) v
noncomputable def slK (v : AV) : Bool → (Nat → List AV → Bool) → (Nat → Nat → Nat → Nat → Bool) → (Nat → Nat → Nat → Bool) → Bool :=
  AV.rec (motive_1 := fun _ => Bool → (Nat → List AV → Bool) → (Nat → Nat → Nat → Nat → Bool) → (Nat → Nat → Nat → Bool) → Bool) (motive_2 := fun _ => Unit) (motive_3 := fun _ => Unit) (motive_4 := fun _ => Unit)
    (fun _ _ _ _ _ => false) (fun _ _ _ _ _ _ => false) (fun _ _ _ _ _ => false) (fun _ _ _ _ _ _ => false) (fun _ _ _ _ => false) (fun _ _ _ _ _ _ => false) (fun _ _ _ _ _ _ => false) (fun  k0 _ _ _ => k0) (fun z e _ _ _ k1 _ _ => k1 z e) (fun i o z n _ _ _ k2 _ => k2 i o z n) (fun _ _ _ _ => false) (fun _ _ _ _ _ => false) (fun _ _ _ _ _ _ => false) (fun _ _ _ _ _ _ _ _ _ => false) (fun _ _ _ _ => false) (fun _ _ _ _ _ _ _ => false) (fun _ _ _ _ => false) (fun _ _ _ _ _ _ => false) (fun _ _ _ _ _ _ => false) (fun i z n _ _ _ k3 => k3 i z n) (fun _ _ _ _ _ _ _ => false) (fun _ _ _ _ => false) (fun _ _ _ _ _ => false) (fun _ _ _ _ _ => false) () (fun _ _ _ _ => ()) () (fun _ _ _ _ => ()) (fun _ _ _ _ => ()) v
noncomputable def gpK (v : AV) : Bool → Bool → Bool :=
  AV.rec (motive_1 := fun _ => Bool → Bool → Bool) (motive_2 := fun _ => Unit) (motive_3 := fun _ => Unit) (motive_4 := fun _ => Unit)
    (fun _ _ k1 => k1) (fun _ _ _ k1 => k1) (fun _ _ k1 => k1) (fun _ _ _ k1 => k1) (fun _ k1 => k1) (fun _ _ _ k1 => k1) (fun _ _ _ k1 => k1) (fun _ k1 => k1) (fun _ _ _ _ _ k1 => k1) (fun _ _ _ _ _ _ k1 => k1) (fun _ k1 => k1) (fun _ _ k1 => k1) (fun _ _ _ k1 => k1) (fun _ _ _ _ _ _ k1 => k1) (fun _ k1 => k1) (fun _ _ _ _ k1 => k1) (fun _ k1 => k1) (fun _ _ _ k1 => k1) (fun _ _ _ k1 => k1) (fun _ _ _ _ k1 => k1) (fun _ _ _ k0 _ => k0) (fun _ k1 => k1) (fun _ _ k1 => k1) (fun _ _ k1 => k1) () (fun _ _ _ _ => ()) () (fun _ _ _ _ => ()) (fun _ _ _ _ => ()) v
noncomputable def aggK (v : AV) : (List AV → Bool) → Bool :=
  AV.rec (motive_1 := fun _ => (List AV → Bool) → Bool) (motive_2 := fun _ => Unit) (motive_3 := fun _ => Unit) (motive_4 := fun _ => Unit)
    (fun _ _ => false) (fun _ _ _ => false) (fun _ _ => false) (fun _ _ _ => false) (fun _ => false) (fun _ _ _ => false) (fun _ _ _ => false) (fun _ => false) (fun _ _ _ _ _ => false) (fun _ _ _ _ _ _ => false) (fun _ => false) (fun _ _ => false) (fun _ _ _ => false) (fun _ _ _ _ _ _ => false) (fun _ => false) (fun _ _ _ _ => false) (fun _ => false) (fun c _ k => k c) (fun _ _ _ => false) (fun _ _ _ _ => false) (fun _ _ _ _ => false) (fun _ => false) (fun _ _ => false) (fun _ _ => false) () (fun _ _ _ _ => ()) () (fun _ _ _ _ => ()) (fun _ _ _ _ => ()) v
noncomputable def tupK (v : AV) : (List AV → Bool) → Bool :=
  AV.rec (motive_1 := fun _ => (List AV → Bool) → Bool) (motive_2 := fun _ => Unit) (motive_3 := fun _ => Unit) (motive_4 := fun _ => Unit)
    (fun _ _ => false) (fun _ _ _ => false) (fun _ _ => false) (fun _ _ _ => false) (fun _ => false) (fun _ _ _ => false) (fun _ _ _ => false) (fun _ => false) (fun _ _ _ _ _ => false) (fun _ _ _ _ _ _ => false) (fun _ => false) (fun _ _ => false) (fun _ _ _ => false) (fun _ _ _ _ _ _ => false) (fun _ => false) (fun _ _ _ _ => false) (fun _ => false) (fun _ _ _ => false) (fun c _ k => k c) (fun _ _ _ _ => false) (fun _ _ _ _ => false) (fun _ => false) (fun _ _ => false) (fun _ _ => false) () (fun _ _ _ _ => ()) () (fun _ _ _ _ => ()) (fun _ _ _ _ => ()) v
/-- What an operation takes. -/
inductive KO where
  | t (g : Frm → AV)
  | c (v : AV)
noncomputable def getO (x : KO) (t : Frm) : AV := KO.rec (motive := fun _ => AV) (fun g => g t) (fun v => v) x
noncomputable def getOs (l : List KO) (t : Frm) : List AV := List.rec (motive := fun _ => List AV) [] (fun x _ ih => getO x t :: ih) l
/-- The callers. -/
structure KC where
  bare : FuncId → List AV → (AV → Bool) → Bool
  wide : FuncId → List AV → St → (AV → St → Bool) → Bool
  look : FuncId → List AV → St → (AV → Bool) → Bool
structure KX where
  X : Cx
  n : Nat
  C : KC
abbrev KN := Frm → St → Bool
abbrev KF := KX → Frm → St → KN → Bool
abbrev KFx := KX → Frm → St → (AV → Fx → Bool) → Bool
inductive KOp where
  | plain (f : KF)
  | chk (j : Nat) (must : List Nat) (keep : Bool) (d : KD) (f : KFx)
inductive Kc where
  | skip
  | reg (l : List KOp)
  | seq (a b : Kc)
  | cond (c : KO) (a b : Kc)
  | block (id : Nat) (c : Kc)
  | loop (c : Kc)
  | exit (id : Nat)
  | ret
  | bad
noncomputable def getN (t : Tr Obj) (n : Nat) : Option Obj :=
  Tr.rec (motive := fun _ => Nat → Option Obj) (fun _ => none)
    (fun v _ _ ihl ihr n => Bool.rec (motive := fun _ => Option Obj)
      (Bool.rec (motive := fun _ => Option Obj) (ihr (Nat.pred (Nat.div n 2))) (ihl (Nat.div n 2)) (Nat.beq (Nat.mod n 2) 1)) v (Nat.beq n 0)) t n
noncomputable def setN (f : Nat) : Tr Obj → Nat → Obj → Tr Obj :=
  Nat.rec (motive := fun _ => Tr Obj → Nat → Obj → Tr Obj) (fun t _ _ => t)
    (fun _ ih t n x => Bool.rec (motive := fun _ => Tr Obj)
      (Bool.rec (motive := fun _ => Tr Obj)
        (Tr.rec (motive := fun _ => Tr Obj) (.node none .leaf (ih .leaf (Nat.pred (Nat.div n 2)) x)) (fun v l r _ _ => .node v l (ih r (Nat.pred (Nat.div n 2)) x)) t)
        (Tr.rec (motive := fun _ => Tr Obj) (.node none (ih .leaf (Nat.div n 2) x) .leaf) (fun v l r _ _ => .node v (ih l (Nat.div n 2) x) r) t)
        (Nat.beq (Nat.mod n 2) 1))
      (Tr.rec (motive := fun _ => Tr Obj) (.node (some x) .leaf .leaf) (fun _ l r _ _ => .node (some x) l r) t)
      (Nat.beq n 0)) f
noncomputable def appK (d : Did) : St → St :=
  Did.rec (motive := fun _ => St → St) (fun s => s)
    (fun id o s => St.rec (motive := fun _ => St) (fun h ro objs => ⟨h, ro, setN (Nat.succ id) objs id o⟩) s)
    (fun _ o s => St.rec (motive := fun _ => St) (fun h ro objs => ⟨Nat.succ h, ro, setN (Nat.succ h) objs h o⟩) s)
    (fun s => s) (fun _ s _ => s) d
/-- The one if it is true; else not. -/
noncomputable def andK (b k : Bool) : Bool := Bool.rec (motive := fun _ => Bool) false k b
noncomputable def notK (b : Bool) : Bool := Bool.rec (motive := fun _ => Bool) true false b
def okSeen (must : List Nat) (x : Fx) : List (Nat × Fx) → Bool
  | [] => true
  | (i, y) :: l => (!must.any (Nat.beq i) || apart y x) && okSeen must x l
noncomputable def opsK (l : List KOp) : KX → List (Nat × Fx) → Frm → St → KN → Bool :=
  List.rec (motive := fun _ => KX → List (Nat × Fx) → Frm → St → KN → Bool) (fun _ _ t st k => k t st)
    (fun o _ ih => KOp.rec (motive := fun _ => KX → List (Nat × Fx) → Frm → St → KN → Bool)
      (fun f X seen t st k => f X t st fun t st => ih X seen t st k)
      (fun j must keep d f X seen t st k => f X t st fun v x =>
        match quiet x with
        | true => ih X seen (putD d t v) (appK x.did st) k
        | false => match okSeen must x seen with
          | true => ih X (match keep with | true => (j, x) :: seen | false => seen) (putD d t v) (appK x.did st) k
          | false => false) o) l
noncomputable def iterK (n : Nat) : (Frm → St → KN → (Nat → KN) → KN → Bool) → Frm → St → (Nat → KN) → KN → Bool :=
  Nat.rec (motive := fun _ => (Frm → St → KN → (Nat → KN) → KN → Bool) → Frm → St → (Nat → KN) → KN → Bool)
    (fun _ _ _ _ _ => false)
    (fun _ ih b t st ke kr => b t st (fun t st => ih b t st ke kr) ke kr) n
noncomputable def execK (c : Kc) : KX → Nat → Frm → St → KN → (Nat → KN) → KN → Bool :=
  Kc.rec (motive := fun _ => KX → Nat → Frm → St → KN → (Nat → KN) → KN → Bool)
    (fun _ _ t st kn _ _ => kn t st)
    (fun l X _ t st kn _ _ => opsK l X [] t st kn)
    (fun _ _ iha ihb X n t st kn ke kr => iha X n t st (fun t st => ihb X n t st kn ke kr) ke kr)
    (fun c _ _ iha ihb X n t st kn ke kr => boolK (getO c t) fun b => Bool.rec (motive := fun _ => Bool) (ihb X n t st kn ke kr) (iha X n t st kn ke kr) b)
    (fun id _ ih X n t st kn ke kr => ih X n t st kn (fun i t st => Bool.rec (motive := fun _ => Bool) (ke i t st) (kn t st) (Nat.beq i id)) kr)
    (fun _ ih X n t st _ ke kr => iterK n (ih X n) t st ke kr)
    (fun id _ _ t st _ ke _ => ke id t st)
    (fun _ _ t st _ _ kr => kr t st)
    (fun _ _ _ _ _ _ _ => false) c
/-- A result. -/
inductive Kr where
  | t (p : Pl)
  | g (r : ResultVar)
structure KFn where
  ntmps : Nat
  code : Kc
  results : List Kr
  imm : TypeId → Bool
noncomputable def putAllK : Nat → List AV → Frm → Frm
  | _, [], t => t
  | i, v :: l, t => putAllK (Nat.succ i) l (putP (pl i) t v)
noncomputable def resK (T : TT) (n : Nat) (t : Frm) (st : St) (r : Kr) : (AV → Bool) → Bool :=
  Kr.rec (motive := fun _ => (AV → Bool) → Bool) (fun p k => k (getP p t)) (fun r k => match resultOf T (toFr n t) st r with | .ok v => k v | .error _ => false) r
noncomputable def resAllK (T : TT) (n : Nat) (t : Frm) (st : St) (l : List Kr) : (List AV → Bool) → Bool :=
  List.rec (motive := fun _ => (List AV → Bool) → Bool) (fun k => k []) (fun r _ ih k => resK T n t st r fun v => ih fun vs => k (v :: vs)) l
noncomputable def finK (T : TT) (n : Nat) (rs : List Kr) (k : AV → St → Bool) : KN := fun t st =>
  resAllK T n t st rs fun vs => k (oneOf vs) st
noncomputable def bodyK (X : KX) (f : KFn) (n : Nat) (args : List AV) (st : St) (k : AV → St → Bool) : Bool :=
  match args.length.ble f.ntmps with
  | false => false
  | true => execK f.code X n (putAllK 0 args nilF) st (finK X.X.T f.ntmps f.results k) (fun _ _ _ => false) (finK X.X.T f.ntmps f.results k)
/-- Values that hold nothing of the store. -/
noncomputable def flatV (v : AV) : Bool :=
  AV.rec (motive_1 := fun _ => Bool) (motive_2 := fun _ => Unit) (motive_3 := fun _ => Unit) (motive_4 := fun _ => Unit)
    (fun _ => true) (fun _ _ => true) (fun _ => true) (fun _ _ => true) true (fun _ _ => true) (fun _ _ => false) true (fun _ _ _ _ => false) (fun _ _ _ _ _ => false) true (fun _ => false) (fun _ _ => false) (fun _ _ _ _ _ => false) true (fun _ _ _ => false) true (fun _ _ => false) (fun _ _ => false) (fun _ _ _ => false) (fun _ _ _ => false) true (fun _ => true) (fun _ => false) () (fun _ _ _ _ => ()) () (fun _ _ _ _ => ()) (fun _ _ _ _ => ()) v
noncomputable def flatAll (l : List AV) : Bool := List.rec (motive := fun _ => Bool) true (fun v _ ih => andK (flatV v) ih) l
noncomputable def flatT (v : AV) : Bool :=
  AV.rec (motive_1 := fun _ => Bool) (motive_2 := fun _ => Unit) (motive_3 := fun _ => Unit) (motive_4 := fun _ => Unit)
    (fun _ => true) (fun _ _ => true) (fun _ => true) (fun _ _ => true) true (fun _ _ => true) (fun _ _ => false) true (fun _ _ _ _ => false) (fun _ _ _ _ _ => false) true (fun _ => false) (fun _ _ => false) (fun _ _ _ _ _ => false) true (fun _ _ _ => false) true (fun _ _ => false) (fun vs _ => flatAll vs) (fun _ _ _ => false) (fun _ _ _ => false) true (fun _ => true) (fun _ => false) () (fun _ _ _ _ => ()) () (fun _ _ _ _ => ()) (fun _ _ _ _ => ()) v
/-- Is none of these a name of the store, when it is stripped? -/
noncomputable def baresK (l : List AV) : Bool := List.rec (motive := fun _ => Bool) true (fun v _ ih => andK (Bool.rec (motive := fun _ => Bool) (bare (strip v)) true (flatV v)) ih) l
noncomputable def stripK (v : AV) : AV := Bool.rec (motive := fun _ => AV) (strip v) v (flatV v)
noncomputable def stripsK (l : List AV) : List AV := List.rec (motive := fun _ => List AV) [] (fun v _ ih => stripK v :: ih) l
noncomputable def froze (r : Res AV) (k : AV → Bool) : Bool :=
  match r with
  | .ok v => match bare v with
    | true => k v
    | false => false
  | .error _ => false
noncomputable def kcX (E : Env) (n : Nat) (C : KC) (kf : KFn) : KX := ⟨⟨E.T, E.prim, kf.imm, E.G, caller E n⟩, kf.ntmps, C⟩
noncomputable def kcBare (E : Env) (F : FuncId → Option KFn) (n : Nat) (C : KC) (f : FuncId) (args : List AV) (k : AV → Bool) : Bool :=
  match E.known f args with
  | some v => k v
  | none => match F f with
    | none => false
    | some kf => bodyK (kcX E n C kf) kf n args St.empty fun v s => Bool.rec (motive := fun _ => Bool) (froze (freeze s 0 100 v) k) (k v) (flatT v)
noncomputable def kcWide (E : Env) (F : FuncId → Option KFn) (n : Nat) (C : KC) (f : FuncId) (args : List AV) (st : St) (k : AV → St → Bool) : Bool :=
  match F f with
  | none => match E.F f with
    | some _ => false
    | none => match E.wrule f with
      | none => false
      | some r => match r args st with
        | .ok x => k x.1 x.2
        | .error _ => false
  | some kf => bodyK (kcX E n C kf) kf n args st k
noncomputable def kcLook (E : Env) (F : FuncId → Option KFn) (n : Nat) (C : KC) (f : FuncId) (args : List AV) (st : St) (k : AV → Bool) : Bool :=
  match F f with
  | none => false
  | some kf => bodyK (kcX E n C kf) kf n args ⟨st.h, st.h, st.objs⟩ fun v s => Bool.rec (motive := fun _ => Bool) (froze (freeze s st.h 100 v) k) (k v) (flatT v)
noncomputable def kcaller (E : Env) (F : FuncId → Option KFn) (n : Nat) : KC :=
  Nat.rec (motive := fun _ => KC) ⟨fun _ _ _ => false, fun _ _ _ _ => false, fun _ _ _ _ => false⟩
    (fun n C => ⟨kcBare E F n C, kcWide E F n C, kcLook E F n C⟩) n
/- The operations. -/
noncomputable def opGen (all : List Oper) (o : Oper) (d : KD) : KF := fun X t st k =>
  match oper X.X all (toFr X.n t) st o with
  | .ok (v, x) => k (putD d t v) (appK x.did st)
  | .error _ => false
noncomputable def opGenX (all : List Oper) (o : Oper) : KFx := fun X t st k =>
  match oper X.X all (toFr X.n t) st o with
  | .ok (v, x) => k v x
  | .error _ => false
/-- A value. -/
abbrev VF := Frm → (AV → Bool) → Bool
noncomputable def opVal (d : KD) (f : VF) : KF := fun _ t st k => f t fun v => k (putD d t v) st
/-- A move. -/
noncomputable def opMv (x : KO) (d : KD) : KF := fun _ t st k => k (putD d t (getO x t)) st
noncomputable def opWhen (p : Pl) (want : Bool) (d : KD) (f : KF) : KF := fun X t st k =>
  match getP p t with
  | .bool b => Bool.rec (motive := fun _ => Bool) (k (putD d t undef) st) (f X t st k) (b == want)
  | _ => k (putD d t undef) st
noncomputable def opWhenX (p : Pl) (want : Bool) (f : KFx) : KFx := fun X t st k =>
  match getP p t with
  | .bool b => match b == want with
    | true => f X t st k
    | false => k undef ⟨[], .kept⟩
  | _ => k undef ⟨[], .kept⟩
noncomputable def callK (full look : Bool) (g : FuncId) (vs : List AV) (X : KX) (st : St) (k : AV → Fx → Bool) : Bool :=
  Bool.rec (motive := fun _ => Bool)
    (Bool.rec (motive := fun _ => Bool) (X.C.wide g vs st fun v s => k v ⟨[], .all st s⟩) (X.C.look g (stripsK vs) st fun v => k v ⟨[], .looked⟩) look)
    (X.C.bare g (stripsK vs) fun v => k v ⟨[], .kept⟩) (andK (baresK vs) (notK full))
/-- A call: 'full' and 'look' as they are known. -/
noncomputable def opCallX (full look : Bool) (g : FuncId) (args : List KO) : KFx := fun X t st k =>
  callK (full := full) (look := look) g (getOs args t) X st k
noncomputable def opPut (d : KD) (f : KFx) : KF := fun X t st k => f X t st fun v x => k (putD d t v) (appK x.did st)
noncomputable def opRunX (o : Oper) : KFx := fun X t st k =>
  match (plan X.X.T X.X.prim X.X.imm X.X.G (toFr X.n t) o.op >>= runPlan X.X.C st : Res (AV × Fx)) with
  | .ok (v, x) => k v x
  | .error _ => false
/-- A call of what is told by a value. -/
noncomputable def opDynX (o : Oper) (f : KO) (args : List KO) : KFx := fun X t st k =>
  match getO f t with
  | .fn (.func g) first cap => match X.X.prim g with
    | some _ => opRunX o X t st k
    | none =>
      callK (full := X.X.C.full g) (look := X.X.C.isLook g) g (first ++ getOs args t ++ cap) X st k
  | _ => false
/- The translation. -/
noncomputable def trO (G : Nat → Option (List AV)) : Operand → Option KO
  | .tmp t => match t.blt 1000 with
    | true => match pl t with
      | ⟨g, _⟩ => some (.t g)
    | false => none
  | .const v => match ofConst v with
    | .ok a => some (.c a)
    | .error _ => none
  | .global g => match G g with
    | some cs => some (.c (.ip cs))
    | none => none
  | .func g => some (.c (.fn (.func g) [] []))
noncomputable def trOs (G : Nat → Option (List AV)) : List Operand → Option (List KO)
  | [] => some []
  | x :: l => match trO G x with
    | none => none
    | some x => match trOs G l with
      | none => none
      | some l => some (x :: l)
noncomputable def trD (n : Nat) : Option Tmp → KD
  | none => none
  | some d => match d.blt n with
    | true => match pl d with
      | ⟨_, q⟩ => some q
    | false => none
/-- Does an operation never look at the store? -/
def still : Op → Bool
  | .move _ | .assign _ | .pick .. | .build .. | .buildSlice .. | .nilCheck _ | .binOp .. | .unOp .. | .makeInterface .. | .makeFunc .. | .slice .. | .fieldAddr .. | .field .. | .index .. | .extract .. => true
  | _ => false
def isLoad : Op → Bool
  | .load .. => true
  | _ => false
/-- May these come in either order, whatever they do? -/
def free (all : List Oper) (i j : Nat) : Bool :=
  match all[i]?, all[j]? with
  | some a, some b => still a.op || (still b.op || ((isLoad a.op && isLoad b.op) || behind all (j + 1) j i))
  | _, _ => false
def mustOf (all : List Oper) (j : Nat) : List Nat := (List.range j).filter fun i => !free all i j
def keepOf (all : List Oper) (i : Nat) : Bool := (List.range all.length).any fun j => i.blt j && !free all i j
/- Fast forms of what stands in the machine. -/
noncomputable def tlK {α : Type} (l : List α) : List α := List.rec (motive := fun _ => List α) [] (fun _ as _ => as) l
noncomputable def hdK {α : Type} (l : List α) (k : α → Bool) : Bool := List.rec (motive := fun _ => Bool) false (fun a _ _ => k a) l
/-- What is behind the first ones: each tail is that of the one ahead (which the kernel knows already). -/
noncomputable def dropK {α : Type} (l : List α) (n : Nat) : List α := Nat.rec (motive := fun _ => List α) l (fun _ ih => tlK ih) n
noncomputable def setK (n : Nat) (l : List AV) (v : AV) : List AV :=
  Nat.rec (motive := fun _ => List AV → List AV) (fun l => List.rec (motive := fun _ => List AV) [] (fun _ as _ => v :: as) l)
    (fun _ ih l => List.rec (motive := fun _ => List AV) [] (fun a as _ => a :: ih as) l) n l
noncomputable def shortK (n : Nat) (l : List AV) : Bool :=
  Nat.rec (motive := fun _ => List AV → Bool) (fun l => List.rec (motive := fun _ => Bool) true (fun _ _ _ => false) l)
    (fun _ ih l => List.rec (motive := fun _ => Bool) true (fun _ as _ => ih as) l) n l
noncomputable def nthK (n : Nat) (l : List AV) (k : AV → Bool) : Bool := hdK (dropK l n) k
noncomputable def nthB (n : Nat) (l : List UInt8) (k : UInt8 → Bool) : Bool := hdK (dropK l n) k
noncomputable def objK (st : St) (i : Nat) (k : Obj → Bool) : Bool :=
  St.rec (motive := fun _ => Bool) (fun h _ objs => andK (Nat.ble (Nat.succ i) h) (Option.rec (motive := fun _ => Bool) false (fun o => k o) (getN objs i))) st
noncomputable def cellsK (o : Obj) : (TypeId → List AV → Bool) → Bool :=
  Obj.rec (motive := fun _ => (TypeId → List AV → Bool) → Bool) (fun t cs k => k t cs) (fun _ _ _ => false) (fun _ _ => false) (fun _ _ _ => false) (fun _ => false) (fun _ _ _ _ _ => false) (fun _ => false) (fun _ _ _ _ _ => false) (fun _ _ _ _ _ _ _ _ => false) o
noncomputable def growK (o : Obj) : (Nat → Nat → List AV → Bool) → Bool :=
  Obj.rec (motive := fun _ => (Nat → Nat → List AV → Bool) → Bool) (fun _ _ _ => false) (fun _ _ _ => false) (fun _ _ => false) (fun _ _ _ => false) (fun _ => false) (fun n _ z es k => k n z es) (fun _ => false) (fun _ _ _ _ _ => false) (fun _ _ _ _ _ _ _ _ => false) o
noncomputable def headK (cs : List AV) : (AV → Bool) → Bool :=
  List.rec (motive := fun _ => (AV → Bool) → Bool) (fun _ => false) (fun v _ _ k => k v) cs
noncomputable def takeK (size : Nat) (agg : Bool) (cs : List AV) (k : AV → Bool) : Bool :=
  Bool.rec (motive := fun _ => Bool) (headK cs k)
    (Bool.rec (motive := fun _ => Bool) (andK (Nat.ble size cs.length) (k (.agg (cs.take size)))) (k (.agg cs)) (Nat.beq size cs.length)) agg
def topK : IntKind → Nat
  | .i8 => 127 | .i16 => 32767 | .i32 => 2147483647 | .i64 => 9223372036854775807
  | .u8 => 255 | .u16 => 65535 | .u32 => 4294967295 | .u64 => 18446744073709551615
def lowK : IntKind → Nat
  | .i8 => 128 | .i16 => 32768 | .i32 => 2147483648 | .i64 => 9223372036854775808
  | _ => 0
noncomputable def wrapK (k : IntKind) (n : Int) : Int :=
  Int.rec (motive := fun _ => Int)
    (fun m => Bool.rec (motive := fun _ => Int) (k.wrap (.ofNat m)) (.ofNat m) (Nat.ble m (topK k)))
    (fun m => Bool.rec (motive := fun _ => Int) (k.wrap (.negSucc m)) (.negSucc m) (Nat.ble (Nat.succ m) (lowK k))) n
noncomputable def addK (a : Int) : Int → Int :=
  Int.rec (motive := fun _ => Int → Int)
    (fun m b => Int.rec (motive := fun _ => Int) (fun n => .ofNat (Nat.add m n))
      (fun n => Bool.rec (motive := fun _ => Int) (.negSucc (Nat.sub n m)) (.ofNat (Nat.sub m (Nat.succ n))) (Nat.ble (Nat.succ n) m)) b)
    (fun m b => Int.add (.negSucc m) b) a
noncomputable def subK (a : Int) : Int → Int :=
  Int.rec (motive := fun _ => Int → Int)
    (fun m b => Int.rec (motive := fun _ => Int)
      (fun n => Bool.rec (motive := fun _ => Int) (.negSucc (Nat.sub n (Nat.succ m))) (.ofNat (Nat.sub m n)) (Nat.ble n m))
      (fun n => .ofNat (Nat.add m (Nat.succ n))) b)
    (fun m b => Int.sub (.negSucc m) b) a
noncomputable def ltK (a : Int) : Int → Bool :=
  Int.rec (motive := fun _ => Int → Bool)
    (fun m b => Int.rec (motive := fun _ => Bool) (fun n => Nat.ble (Nat.succ m) n) (fun _ => false) b)
    (fun m b => Int.rec (motive := fun _ => Bool) (fun _ => true) (fun n => Nat.ble (Nat.succ n) m) b) a
noncomputable def eqK (a : Int) : Int → Bool :=
  Int.rec (motive := fun _ => Int → Bool)
    (fun m b => Int.rec (motive := fun _ => Bool) (fun n => Nat.beq m n) (fun _ => false) b)
    (fun m b => Int.rec (motive := fun _ => Bool) (fun _ => false) (fun n => Nat.beq m n) b) a
/-- Bits of two numbers that are not below 0. -/
noncomputable def bitsK (f : Nat → Nat → Nat) (slow : IntKind → Int → Int → Int) (k : IntKind) (a b : Int) : Int :=
  Int.rec (motive := fun _ => Int)
    (fun m => Int.rec (motive := fun _ => Int)
      (fun n => Bool.rec (motive := fun _ => Int) (slow k a b) (Bool.rec (motive := fun _ => Int) (slow k a b) (.ofNat (f m n)) (Nat.ble n (topK k))) (Nat.ble m (topK k)))
      (fun _ => slow k a b) b)
    (fun _ => slow k a b) a
def slowAnd (k : IntKind) (a b : Int) : Int := k.wrap ((BitVec.ofInt k.bits a) &&& (BitVec.ofInt k.bits b)).toNat
def slowOr (k : IntKind) (a b : Int) : Int := k.wrap ((BitVec.ofInt k.bits a) ||| (BitVec.ofInt k.bits b)).toNat
def slowXor (k : IntKind) (a b : Int) : Int := k.wrap ((BitVec.ofInt k.bits a) ^^^ (BitVec.ofInt k.bits b)).toNat
noncomputable def eqS (a : List UInt8) : List UInt8 → Bool :=
  List.rec (motive := fun _ => List UInt8 → Bool) (fun b => List.rec (motive := fun _ => Bool) true (fun _ _ _ => false) b)
    (fun x _ ih b => List.rec (motive := fun _ => Bool) false (fun y m _ => Bool.rec (motive := fun _ => Bool) false (ih m) (Nat.beq x.toNat y.toNat)) b) a
noncomputable def intG : BinOp → Option (IntKind → Int → Int → AV)
  | .add => some fun k a b => .int k (wrapK k (addK a b))
  | .sub => some fun k a b => .int k (wrapK k (subK a b))
  | .and => some fun k a b => .int k (bitsK Nat.land slowAnd k a b)
  | .or => some fun k a b => .int k (bitsK Nat.lor slowOr k a b)
  | .xor => some fun k a b => .int k (bitsK Nat.xor slowXor k a b)
  | .eql => some fun _ a b => .bool (eqK a b)
  | .neq => some fun _ a b => .bool (notK (eqK a b))
  | .lss => some fun _ a b => .bool (ltK a b)
  | .leq => some fun _ a b => .bool (notK (ltK b a))
  | .gtr => some fun _ a b => .bool (ltK b a)
  | .geq => some fun _ a b => .bool (notK (ltK a b))
  | _ => none
noncomputable def strG : BinOp → Option (List UInt8 → List UInt8 → AV)
  | .eql => some fun a b => .bool (eqS a b)
  | .neq => some fun a b => .bool (notK (eqS a b))
  | _ => none
/- Values. -/
noncomputable def vMv (x : KO) : VF := fun t k => k (getO x t)
noncomputable def vInt (g : IntKind → Int → Int → AV) (x y : KO) : VF := fun t k =>
  intK (getO x t) fun a m => intK (getO y t) fun b n => andK (decide (a = b)) (k (g a m n))
noncomputable def vStr (g : List UInt8 → List UInt8 → AV) (x y : KO) : VF := fun t k => strK (getO x t) fun a => strK (getO y t) fun b => k (g a b)
noncomputable def vNot (x : KO) : VF := fun t k => boolK (getO x t) fun b => k (.bool (notK b))
noncomputable def vConv (i : IntKind) (x : KO) : VF := fun t k => intK (getO x t) fun _ n => k (.int i (wrapK i n))
noncomputable def vIface (ty : TypeId) (x : KO) : VF := fun t k => k (.iface ty (getO x t))
noncomputable def vFieldAddr (off : Nat) (x : KO) : VF := fun t k =>
  adrK (getO x t) (fun cells => k (.ip (dropK cells off))) (fun id o => k (.mp id (Nat.add o off)))
noncomputable def vField (off size : Nat) (agg : Bool) (x : KO) : VF := fun t k => aggK (getO x t) fun cs => takeK size agg (dropK cs off) k
noncomputable def vIndexStr (x i : KO) : VF := fun t k => natK (getO i t) fun m => strK (getO x t) fun s => nthB m s fun b => k (.int .u8 (.ofNat b.toNat))
noncomputable def vNil (x : KO) : VF := fun t k => adrK (getO x t) (fun c => k (.ip c)) (fun i o => k (.mp i o))
noncomputable def vExtract (i : Nat) (x : KO) : VF := fun t k => tupK (getO x t) fun vs => nthK i vs k
/-- The length, without a deep recursion. -/
noncomputable def lenB (s : List UInt8) : Nat :=
  List.rec (motive := fun _ => Nat → Nat) (fun n => n) (fun _ _ ih n => Bool.rec (motive := fun _ => Nat) (ih (Nat.succ n)) (ih (Nat.succ n)) (Nat.beq n 0)) s 0
noncomputable def vLenStr (x : KO) : VF := fun t k => strK (getO x t) fun s => k (.int .i64 (.ofNat (lenB s)))
noncomputable def vLenSl (x : KO) : VF := fun t k =>
  slK (getO x t) (k (.int .i64 (.ofNat 0))) (fun _ e => k (.int .i64 (.ofNat e.length))) (fun _ _ _ len => k (.int .i64 (.ofNat len))) (fun _ _ n => k (.int .i64 (.ofNat n)))
noncomputable def vPick (c x y : KO) : VF := fun t k => boolK (getO c t) fun b => k (Bool.rec (motive := fun _ => AV) (getO y t) (getO x t) b)
noncomputable def vIndexArr (len size : Nat) (x i : KO) : VF := fun t k => natK (getO i t) fun m => andK (Nat.ble (Nat.succ m) len)
  (adrK (getO x t) (fun cells => k (.ip (dropK cells (Nat.mul m size)))) (fun id off => k (.mp id (Nat.add off (Nat.mul m size)))))
/-- What is known beforehand. -/
noncomputable def vRes (r : Res AV) : VF := fun _ k => Except.rec (motive := fun _ => Bool) (fun _ => false) (fun v => k v) r
noncomputable def takeB (l : List UInt8) (n : Nat) : List UInt8 := Bool.rec (motive := fun _ => List UInt8) (l.take n) l (Nat.beq n l.length)
noncomputable def vSliceStr (lo hi : Option KO) (x : KO) : VF := fun t k => strK (getO x t) fun s =>
  Option.rec (motive := fun _ => Bool)
    (Option.rec (motive := fun _ => Bool) (k (.str s)) (fun lo => natK (getO lo t) fun l => andK (Nat.ble l s.length) (k (.str (dropK s l)))) lo)
    (fun hi => natK (getO hi t) fun h => andK (Nat.ble h s.length)
      (Option.rec (motive := fun _ => Bool) (k (.str (takeB s h))) (fun lo => natK (getO lo t) fun l => andK (Nat.ble l h) (k (.str (dropK (takeB s h) l)))) lo)) hi
/- What looks at the store. -/
noncomputable def opValX (f : VF) : KFx := fun _ t _ k => f t fun v => k v ⟨[], .kept⟩
noncomputable def xLoad (size : Nat) (agg : Bool) (x : KO) : KFx := fun _ t st k =>
  adrK (getO x t) (fun cells => takeK size agg cells fun v => k v ⟨[], .kept⟩)
    (fun id off => objK st id fun o => cellsK o fun _ cs => takeK size agg (dropK cs off) fun v => k v ⟨[id], .kept⟩)
noncomputable def xIndexAddr (size : Nat) (x i : KO) : KFx := fun _ t st k => natK (getO i t) fun m =>
  slK (getO x t) false (fun sz es => andK (Nat.beq sz size) (nthK m es fun v => k (.ip v.cells) ⟨[], .kept⟩))
    (fun id off sz len => andK (Nat.beq sz size) (andK (Nat.ble (Nat.succ m) len) (k (.mp id (Nat.add off (Nat.mul m sz))) ⟨[], .kept⟩)))
    (fun id sz n => andK (Nat.beq sz size) (andK (Nat.ble (Nat.succ m) n) (objK st id fun o => growK o fun n' z' es => andK (Nat.beq n n') (andK (Nat.beq z' sz)
      (Bool.rec (motive := fun _ => Bool) (k (.gp id n (Nat.mul m sz)) ⟨[id], .kept⟩) (nthK m es fun v => k (.ip v.cells) ⟨[id], .kept⟩) (Nat.ble (Nat.succ m) es.length))))))
noncomputable def xStore1 (x v : KO) : KFx := fun _ t st k =>
  adrK (getO x t) (fun _ => false)
    (fun id off => andK (one (getO v t)) (objK st id fun o => cellsK o fun ty cs => andK (notK (shortK off cs)) (andK (St.rec (motive := fun _ => Bool) (fun _ ro _ => Nat.ble ro id) st)
      (k undef ⟨[id], .wrote id (.cells ty (setK off cs (getO v t)))⟩))))
noncomputable def xStoreN (size : Nat) (x v : KO) : KFx := fun _ t st k =>
  adrK (getO x t) (fun _ => false)
    (fun id off => aggK (getO v t) fun c => andK (Nat.beq c.length size) (andK (ones c) (objK st id fun o => cellsK o fun ty cs =>
      andK (St.rec (motive := fun _ => Bool) (fun _ ro _ => Nat.ble ro id) st) (Bool.rec (motive := fun _ => Bool)
        (andK (Nat.ble (Nat.add off c.length) cs.length) (k undef ⟨[id], .wrote id (.cells ty (splice cs off c))⟩))
        (k undef ⟨[id], .wrote id (.cells ty c)⟩) (Nat.beq off 0 && Nat.beq cs.length c.length)))))
noncomputable def byteK (v : AV) : Bool :=
  AV.rec (motive_1 := fun _ => Bool) (motive_2 := fun _ => Unit) (motive_3 := fun _ => Unit) (motive_4 := fun _ => Unit)
    (fun _ => false) (fun k _ => decide (k = .u8)) (fun _ => false) (fun _ _ => false) false (fun _ _ => false) (fun _ _ => false) false (fun _ _ _ _ => false) (fun _ _ _ _ _ => false) false (fun _ => false) (fun _ _ => false) (fun _ _ _ _ _ => false) false (fun _ _ _ => false) false (fun _ _ => false) (fun _ _ => false) (fun _ _ _ => false) (fun _ _ _ => false) false (fun _ => false) (fun _ => false) () (fun _ _ _ _ => ()) () (fun _ _ _ _ => ()) (fun _ _ _ _ => ()) v
noncomputable def byteV (v : AV) : UInt8 :=
  AV.rec (motive_1 := fun _ => UInt8) (motive_2 := fun _ => Unit) (motive_3 := fun _ => Unit) (motive_4 := fun _ => Unit)
    (fun _ => 0) (fun _ n => UInt8.ofNat n.toNat) (fun _ => 0) (fun _ _ => 0) 0 (fun _ _ => 0) (fun _ _ => 0) 0 (fun _ _ _ _ => 0) (fun _ _ _ _ _ => 0) 0 (fun _ => 0) (fun _ _ => 0) (fun _ _ _ _ _ => 0) 0 (fun _ _ _ => 0) 0 (fun _ _ => 0) (fun _ _ => 0) (fun _ _ _ => 0) (fun _ _ _ => 0) 0 (fun _ => 0) (fun _ => 0) () (fun _ _ _ _ => ()) () (fun _ _ _ _ => ()) (fun _ _ _ _ => ()) v
/-- Are there that many, and all of them bytes? -/
noncomputable def allB (n : Nat) (l : List AV) : Bool :=
  Nat.rec (motive := fun _ => List AV → Bool) (fun _ => true) (fun _ ih l => List.rec (motive := fun _ => Bool) false (fun v l _ => andK (byteK v) (ih l)) l) n l
noncomputable def mapB (n : Nat) (l : List AV) : List UInt8 :=
  Nat.rec (motive := fun _ => List AV → List UInt8) (fun _ => []) (fun _ ih l => List.rec (motive := fun _ => List UInt8) [] (fun v l _ => byteV v :: ih l) l) n l
noncomputable def xBytes (x : KO) : KFx := fun _ t st k =>
  slK (getO x t) (k (.str []) ⟨[], .kept⟩) (fun _ es => andK (allB es.length es) (k (.str (mapB es.length es)) ⟨[], .kept⟩))
    (fun id off _ len => objK st id fun o => cellsK o fun _ cs => andK (allB len (dropK cs off)) (k (.str (mapB len (dropK cs off))) ⟨[id], .kept⟩))
    (fun _ _ _ => false)
noncomputable def xAlloc (ty : TypeId) (z : List AV) : KFx := fun _ _ st k =>
  St.rec (motive := fun _ => Bool) (fun h _ _ => k (.mp h 0) ⟨[], .made h (.cells ty z)⟩) st
structure KT where
  T : TT
  prim : FuncId → Option Prim
  imm : TypeId → Bool
  G : Nat → Option (List AV)
  full : FuncId → Bool
  isLook : FuncId → Bool
  n : Nat
/-- What an operation is. -/
inductive Tk where
  | v (f : VF)
  | x (f : KFx)
noncomputable def trV2 (f : KO → KO → VF) (G : Nat → Option (List AV)) (x y : Operand) : Option Tk :=
  match trO G x, trO G y with
  | some x, some y => some (.v (f x y))
  | _, _ => none
noncomputable def trV1 (f : KO → VF) (G : Nat → Option (List AV)) (x : Operand) : Option Tk :=
  match trO G x with
  | some x => some (.v (f x))
  | _ => none
noncomputable def trBin (X : KT) (op : BinOp) (t : TypeId) (x y : Operand) : Option Tk :=
  match ti X.T t with
  | .ok i => match i.und with
    | .int _ => match intG op with
      | some g => trV2 (vInt g) X.G x y
      | none => none
    | .str => match strG op with
      | some g => trV2 (vStr g) X.G x y
      | none => none
    | _ => none
  | .error _ => none
noncomputable def trFieldAddr (X : KT) (t : TypeId) (x : Operand) (f : Nat) : Option Tk :=
  match ti X.T t with
  | .ok i => match i.und with
    | .struct fs => match fs[f]? with
      | some (off, ft) => match ti X.T ft with
        | .ok j => match j.size with
          | 0 => none
          | _ + 1 => trV1 (vFieldAddr off) X.G x
        | .error _ => none
      | none => none
    | _ => none
  | .error _ => none
noncomputable def trField (X : KT) (t : TypeId) (x : Operand) (f : Nat) : Option Tk :=
  match ti X.T t with
  | .ok i => match i.und with
    | .struct fs => match fs[f]? with
      | some (off, ft) => match ti X.T ft with
        | .ok j => trV1 (vField off j.size j.agg) X.G x
        | .error _ => none
      | none => none
    | _ => none
  | .error _ => none
noncomputable def trIndexAddr (X : KT) (t : TypeId) (x y : Operand) : Option Tk :=
  match ti X.T t with
  | .ok i => match i.und with
    | .slice e => match ti X.T e with
      | .ok j => match trO X.G x, trO X.G y with
        | some x, some y => some (.x (xIndexAddr j.size x y))
        | _, _ => none
      | .error _ => none
    | .arr len e => match ti X.T e with
      | .ok j => trV2 (vIndexArr len j.size) X.G x y
      | .error _ => none
    | _ => none
  | .error _ => none
noncomputable def trIndex (X : KT) (t : TypeId) (x y : Operand) : Option Tk :=
  match ti X.T t with
  | .ok i => match i.und with
    | .str => trV2 vIndexStr X.G x y
    | _ => none
  | .error _ => none
noncomputable def trConv (X : KT) (s d : TypeId) (x : Operand) : Option Tk :=
  match ti X.T s, ti X.T d with
  | .ok i, .ok j => match i.und, j.und with
    | .int _, .int k => trV1 (vConv k) X.G x
    | .slice e, .str => match ti X.T e with
      | .ok u => match isByte u.und with
        | true => match trO X.G x with
          | some x => some (.x (xBytes x))
          | none => none
        | false => none
      | .error _ => none
    | _, _ => none
  | _, _ => none
noncomputable def trIface (X : KT) (t : TypeId) (x : Operand) : Option Tk :=
  match ti X.T t with
  | .ok i => match i.und with
    | .iface _ | .other => none
    | _ => trV1 (vIface t) X.G x
  | .error _ => none
noncomputable def trLoad (X : KT) (t : TypeId) (x : Operand) : Option Tk :=
  match ti X.T t, trO X.G x with
  | .ok i, some x => some (.x (xLoad i.size i.agg x))
  | _, _ => none
/-- A store: to an element that is not yet written, or elsewhere. -/
noncomputable def xStoreG (o : Oper) (x : KO) (f : KFx) : KFx := fun X t st k => gpK (getO x t) (opRunX o X t st k) (f X t st k)
noncomputable def trStore (X : KT) (o : Oper) (t : TypeId) (x v : Operand) : Option Tk :=
  match ti X.T t, trO X.G x, trO X.G v with
  | .ok i, some x, some v => match Nat.beq i.size 1 && !i.agg with
    | true => some (.x (xStoreG o x (xStore1 x v)))
    | false => match i.agg with
      | true => some (.x (xStoreG o x (xStoreN i.size x v)))
      | false => none
  | _, _, _ => none
noncomputable def trPick (X : KT) (c x y : Operand) : Option Tk :=
  match trO X.G c, trO X.G x, trO X.G y with
  | some c, some x, some y => some (.v (vPick c x y))
  | _, _, _ => none
/-- Constants alone. -/
def constParts : List (Nat × Operand) → Option (List (Nat × AV))
  | [] => some []
  | (i, x) :: l => match x with
    | .const v => match ofConst v with
      | .ok a => match constParts l with
        | some l => some ((i, a) :: l)
        | none => none
      | .error _ => none
    | _ => none
noncomputable def trBuildSlice (X : KT) (t : TypeId) (len : Nat) (parts : Array (Nat × Operand)) : Option Tk :=
  match constParts parts.toList with
  | some ps => some (.v (vRes (buildSlice X.T t len ps)))
  | none => none
noncomputable def trOptO (G : Nat → Option (List AV)) : Option Operand → Option (Option KO)
  | none => some none
  | some x => match trO G x with
    | some k => some (some k)
    | none => none
noncomputable def trSlice (X : KT) (t : TypeId) (x : Operand) (lo hi mx : Option Operand) : Option Tk :=
  match mx with
  | some _ => none
  | none => match ti X.T t with
    | .ok i => match i.und with
      | .str => match trOptO X.G lo, trOptO X.G hi, trO X.G x with
        | some lo, some hi, some x => some (.v (vSliceStr lo hi x))
        | _, _, _ => none
      | _ => none
    | .error _ => none
noncomputable def trLen (X : KT) (t : TypeId) (x : Operand) : Option Tk :=
  match ti X.T t with
  | .ok i => match i.und with
    | .str => trV1 vLenStr X.G x
    | .slice _ => trV1 vLenSl X.G x
    | _ => none
  | .error _ => none
noncomputable def trAlloc (X : KT) (t : TypeId) : Option Tk :=
  match ti X.T t with
  | .ok i => some (.x (xAlloc t i.zero))
  | .error _ => none
noncomputable def trCall (X : KT) (o : Oper) (c : Call) : Option Tk :=
  match c.callee with
  | .builtin b => match b, c.argTypes.toList, c.args.toList with
    | .len, t :: _, [x] => trLen X t x
    | _, _, _ => none
  | .value f => match trO X.G f, trOs X.G c.args.toList with
    | some f, some args => match f with
      | .c v => match v with
        | .fn w first cap => match w with
          | .func g => match first, cap with
            | [], [] => match X.prim g with
              | none => some (.x (opCallX (X.full g) (X.isLook g) g args))
              | some _ => none
            | _, _ => none
          | _ => none
        | _ => none
      | .t p => some (.x (opDynX o (.t p) args))
    | _, _ => none
  | .invoke .. => none
noncomputable def trBase (X : KT) (o : Oper) : Option Tk :=
  match o.op with
  | .move x => trV1 vMv X.G x
  | .assign x => trV1 vMv X.G x
  | .binOp op t x y _ => trBin X op t x y
  | .unOp .not _ x => trV1 vNot X.G x
  | .pick c x y => trPick X c x y
  | .buildSlice t len parts => trBuildSlice X t len parts
  | .slice t x lo hi mx => trSlice X t x lo hi mx
  | .convert s d x => trConv X s d x
  | .makeInterface t x => trIface X t x
  | .fieldAddr t x f => trFieldAddr X t x f
  | .field t x f => trField X t x f
  | .indexAddr t x i => trIndexAddr X t x i
  | .index t x i => trIndex X t x i
  | .nilCheck x => trV1 vNil X.G x
  | .extract x i => trV1 (vExtract i) X.G x
  | .load t x => trLoad X t x
  | .store t x v => trStore X o t x v
  | .alloc t => trAlloc X t
  | .call c => trCall X o c
  | _ => none
/-- One operation, plainly. -/
noncomputable def trMove (G : Nat → Option (List AV)) (o : Oper) : Option KO :=
  match o.guard with
  | some _ => none
  | none => match o.op with
    | .move x => trO G x
    | .assign x => trO G x
    | _ => none
noncomputable def trPlain (X : KT) (all : List Oper) (o : Oper) : KOp :=
  match trMove X.G o with
  | some x => .plain (opMv x (trD X.n o.dst))
  | none =>
  match trBase X o with
  | none => .plain (opGen all o (trD X.n o.dst))
  | some k => match o.guard with
    | none => match k with
      | .v f => .plain (opVal (trD X.n o.dst) f)
      | .x f => .plain (opPut (trD X.n o.dst) f)
    | some (j, want) => match (all[j]?).bind (·.dst) with
      | some d => match d.blt X.n with
        | true => match k with
          | .v f => .plain (opWhen (pl d) want (trD X.n o.dst) (opVal (trD X.n o.dst) f))
          | .x f => .plain (opWhen (pl d) want (trD X.n o.dst) (opPut (trD X.n o.dst) f))
        | false => .plain (opGen all o (trD X.n o.dst))
      | none => .plain (opGen all o (trD X.n o.dst))
noncomputable def trChk (X : KT) (all : List Oper) (o : Oper) (j : Nat) (m : List Nat) (b : Bool) : KOp :=
  match trBase X o with
  | none => .chk j m b (trD X.n o.dst) (opGenX all o)
  | some k => match o.guard with
    | none => match k with
      | .v f => .chk j m b (trD X.n o.dst) (opValX f)
      | .x f => .chk j m b (trD X.n o.dst) f
    | some (i, want) => match (all[i]?).bind (·.dst) with
      | some d => match d.blt X.n with
        | true => match k with
          | .v f => .chk j m b (trD X.n o.dst) (opWhenX (pl d) want (opValX f))
          | .x f => .chk j m b (trD X.n o.dst) (opWhenX (pl d) want f)
        | false => .chk j m b (trD X.n o.dst) (opGenX all o)
      | none => .chk j m b (trD X.n o.dst) (opGenX all o)
noncomputable def trOp (X : KT) (all : List Oper) (draw : Bool) (j : Nat) (o : Oper) : KOp :=
  match draw with
  | false => trPlain X all o
  | true => match still o.op with
    | true => trPlain X all o
    | false => match mustOf all j with
      | [] => match keepOf all j with
        | false => trPlain X all o
        | true => trChk X all o j [] true
      | m :: l => trChk X all o j (m :: l) (keepOf all j)
noncomputable def trOps (X : KT) (all : List Oper) (draw : Bool) : Nat → List Oper → List KOp
  | _, [] => []
  | j, o :: l => trOp X all draw j o :: trOps X all draw (j + 1) l
noncomputable def trC (X : KT) : Code → Kc
  | .skip => .skip
  | .region _ ops draw => match draw && X.imm 4000000 with
    | false => .reg (trOps X ops.toList draw 0 ops.toList)
    | true => .bad
  | .seq a b => .seq (trC X a) (trC X b)
  | .cond c a b => match trO X.G c with
    | some c => .cond c (trC X a) (trC X b)
    | none => .bad
  | .block id c => .block id (trC X c)
  | .loop c => .loop (trC X c)
  | .exit id => .exit id
  | .label _ => .skip
  | .ret => .ret
  | .scope c => trC X c
  | _ => .bad
noncomputable def trR : ResultVar → Kr
  | .tmp t => match t.blt 1000 with
    | true => .t (pl t)
    | false => .g (.tmp t)
  | .cell a t => .g (.cell a t)
noncomputable def trFn (E : Env) (f : FuncId) (fn : Func) : KFn :=
  ⟨fn.ntmps, match fn.ntmps.blt 1000 with | false => .bad | true => match fn.body with | some c => trC ⟨E.T, E.prim, E.imm f, E.G, E.full, E.isLook, fn.ntmps⟩ c | none => .bad, fn.results.toList.map trR, E.imm f⟩
namespace Tr
/-- All of a tree, with its numbers. -/
def mapI {α β : Type} (g : Nat → α → β) : (Nat → Nat) → Tr α → Tr β
  | _, .leaf => .leaf
  | f, .node v l r => .node (match v with | some x => some (g (f 0) x) | none => none) (mapI g (fun k => f (2 * k + 1)) l) (mapI g (fun k => f (2 * k + 2)) r)
end Tr
noncomputable def ktable (E : Env) (t : Tr Func) : Tr KFn := Tr.mapI (trFn E) (fun k => k) t
end Go.VM
/- The fast machine's frames hold what the machine's frames hold. -/
namespace Go.VM
theorem t_blt {a b : Nat} (h : a.blt b = true) : a < b := by rwa [Nat.blt_eq] at h
theorem blt_t {a b : Nat} (h : a < b) : a.blt b = true := by rwa [Nat.blt_eq]
theorem N16.sel_g {α : Type} (n : N16 α) : ∀ i, i < 16 → (n.list)[i]? = some ((N16.sel i).g n)
  | 0, _ => rfl
  | 1, _ => rfl
  | 2, _ => rfl
  | 3, _ => rfl
  | 4, _ => rfl
  | 5, _ => rfl
  | 6, _ => rfl
  | 7, _ => rfl
  | 8, _ => rfl
  | 9, _ => rfl
  | 10, _ => rfl
  | 11, _ => rfl
  | 12, _ => rfl
  | 13, _ => rfl
  | 14, _ => rfl
  | 15, _ => rfl
  | i + 16, h => by omega
theorem N16.sel_p {α : Type} (n : N16 α) (x : α) : ∀ i, i < 16 → ((N16.sel i).p n x).list = n.list.set i x
  | 0, _ => rfl
  | 1, _ => rfl
  | 2, _ => rfl
  | 3, _ => rfl
  | 4, _ => rfl
  | 5, _ => rfl
  | 6, _ => rfl
  | 7, _ => rfl
  | 8, _ => rfl
  | 9, _ => rfl
  | 10, _ => rfl
  | 11, _ => rfl
  | 12, _ => rfl
  | 13, _ => rfl
  | 14, _ => rfl
  | 15, _ => rfl
  | i + 16, h => by omega
theorem N4.sel_g {α : Type} (n : N4 α) : ∀ i, i < 4 → (n.list)[i]? = some ((N4.sel i).g n)
  | 0, _ => rfl
  | 1, _ => rfl
  | 2, _ => rfl
  | 3, _ => rfl
  | i + 4, h => by omega
theorem N4.sel_p {α : Type} (n : N4 α) (x : α) : ∀ i, i < 4 → ((N4.sel i).p n x).list = n.list.set i x
  | 0, _ => rfl
  | 1, _ => rfl
  | 2, _ => rfl
  | 3, _ => rfl
  | i + 4, h => by omega
theorem N16.list_len {α : Type} (n : N16 α) : n.list.length = 16 := rfl
theorem N4.list_len {α : Type} (n : N4 α) : n.list.length = 4 := rfl
theorem N16.get {α : Type} (n : N16 α) (x : α) {i j : Nat} (hi : i < 16) (hj : j < 16) : (N16.sel j).g ((N16.sel i).p n x) = if i = j then x else (N16.sel j).g n := by
  have h := N16.sel_g ((N16.sel i).p n x) j hj
  rw [N16.sel_p n x i hi, List.getElem?_set] at h
  have h' := N16.sel_g n j hj
  split
  · rename_i e
    rw [if_pos e, if_pos (by rw [N16.list_len]; omega)] at h
    exact (Option.some.inj h).symm
  · rename_i e
    rw [if_neg e, h'] at h
    exact (Option.some.inj h).symm
theorem N4.get {α : Type} (n : N4 α) (x : α) {i j : Nat} (hi : i < 4) (hj : j < 4) : (N4.sel j).g ((N4.sel i).p n x) = if i = j then x else (N4.sel j).g n := by
  have h := N4.sel_g ((N4.sel i).p n x) j hj
  rw [N4.sel_p n x i hi, List.getElem?_set] at h
  have h' := N4.sel_g n j hj
  split
  · rename_i e
    rw [if_pos e, if_pos (by rw [N4.list_len]; omega)] at h
    exact (Option.some.inj h).symm
  · rename_i e
    rw [if_neg e, h'] at h
    exact (Option.some.inj h).symm
theorem getP_pl (n : Nat) (t : Frm) : getP (pl n) t = (N16.sel (n % 16)).g ((N16.sel (n / 16 % 16)).g ((N4.sel (n / 256)).g t)) := rfl
theorem putP_pl (n : Nat) (t : Frm) (v : AV) : putP (pl n) t v = (N4.sel (n / 256)).p t ((N16.sel (n / 16 % 16)).p ((N4.sel (n / 256)).g t) ((N16.sel (n % 16)).p ((N16.sel (n / 16 % 16)).g ((N4.sel (n / 256)).g t)) v)) := rfl
theorem kget_put (t : Frm) {m : Nat} (v : AV) (n : Nat) (hm : m < 1000) : kget (putP (pl m) t v) n = if m = n then v else kget t n := by
  unfold kget
  cases hn : n.blt 1000 with
  | false =>
    have : ¬ n < 1000 := fun h => by rw [blt_t h] at hn; cases hn
    rw [if_neg (by omega)]
  | true =>
    have hn : n < 1000 := t_blt hn
    simp only [getP_pl, putP_pl]
    rw [N4.get _ _ (by omega) (by omega)]
    by_cases h1 : m / 256 = n / 256
    · rw [if_pos h1, N16.get _ _ (by omega) (by omega)]
      by_cases h2 : m / 16 % 16 = n / 16 % 16
      · rw [if_pos h2, N16.get _ _ (by omega) (by omega)]
        by_cases h3 : m % 16 = n % 16
        · rw [if_pos h3, if_pos (by omega)]
        · rw [if_neg h3, if_neg (by omega), h1, h2]
      · rw [if_neg h2, if_neg (by omega), h1]
    · rw [if_neg h1, if_neg (by omega)]
theorem sel_nil {α : Type} (x : α) : ∀ i, (N16.sel i).g (nil16 x) = x := by
  intro i
  unfold N16.sel
  split <;> rfl
theorem kget_nil (n : Nat) : kget nilF n = undef := by
  unfold kget
  cases hn : n.blt 1000 with
  | false => rfl
  | true =>
    dsimp only
    rw [getP_pl]
    have h4 : ∀ i, (N4.sel i).g nilF = nil16 (nil16 undef) := by
      intro i; unfold N4.sel; split <;> rfl
    rw [h4, sel_nil, sel_nil]
theorem trOf_get : ∀ (d : Nat) (f : Nat → AV) (i : Nat), (trOf d f).get i = if i + 1 < 2 ^ d then some (f i) else none
  | 0, f, i => by rw [trOf, Tr.get_leaf, if_neg (by simp)]
  | d + 1, f, i => by
    rw [trOf, Tr.get_node]
    have e : 2 ^ (d + 1) = 2 * 2 ^ d := by rw [Nat.pow_succ]; omega
    have p : 0 < 2 ^ d := Nat.two_pow_pos d
    split
    · rename_i h; subst h
      rw [if_pos (by omega)]
    · split
      · rename_i h0 h1
        rw [trOf_get d]
        split
        · rw [if_pos (by omega), show 2 * (i / 2) + 1 = i by omega]
        · rw [if_neg (by omega)]
      · rename_i h0 h1
        rw [trOf_get d]
        split
        · rw [if_pos (by omega), show 2 * (i / 2 - 1) + 2 = i by omega]
        · rw [if_neg (by omega)]
theorem toFr_get (n : Nat) (t : Frm) (i : Nat) : (toFr n t).get i = kget t i := by
  unfold Fr.get toFr
  dsimp only
  rw [trOf_get]
  split
  · rfl
  · rename_i h
    have : ¬ i < 1000 := fun h' => h (by rw [show (2 : Nat) ^ 10 = 1024 from rfl]; omega)
    unfold kget
    cases hn : i.blt 1000 with
    | false => rfl
    | true => exact absurd (t_blt hn) this
/-- A frame, and a fast one. -/
structure FR (fr : Fr) (m : Nat) (t : Frm) : Prop where
  s : fr.strict = false
  n : fr.n = m
  le : m < 1000
  get : ∀ i, fr.get i = kget t i
theorem FR.toFr {n : Nat} {t : Frm} (h : n < 1000) : FR (toFr n t) n t := ⟨rfl, rfl, h, toFr_get n t⟩
theorem FR.put {fr : Fr} {n : Nat} {t : Frm} (h : FR fr n t) (d : Option Tmp) (v : AV) : FR (fr.put d v) n (putD (trD n d) t v) := by
  cases d with
  | none => exact h
  | some d =>
    unfold Fr.put trD
    rw [h.n]
    dsimp only
    cases hd : d.blt n with
    | false => exact h
    | true =>
      have hd := t_blt hd
      dsimp only
      show FR ⟨n, fr.t.put d v, fr.strict⟩ n (putP (pl d) t v)
      refine ⟨h.s, rfl, h.le, fun i => ?_⟩
      show Fr.get ⟨n, fr.t.put d v, fr.strict⟩ i = kget (putP (pl d) t v) i
      rw [kget_put t v i (by have := h.le; omega)]
      unfold Fr.get
      dsimp only
      rw [Tr.get_put]
      split
      · rfl
      · have := h.get i
        unfold Fr.get at this
        exact this
/-- Frames that hold the same. -/
def Alike (a b : Fr) : Prop := (a.n = b.n ∧ a.strict = false ∧ b.strict = false) ∧ ∀ i, a.get i = b.get i
theorem FR.alike {a b : Fr} {n : Nat} {t : Frm} (h : FR a n t) (h' : FR b n t) : Alike a b := ⟨⟨h.n.trans h'.n.symm, h.s, h'.s⟩, fun i => (h.get i).trans (h'.get i).symm⟩
theorem evalO_alike {G : Nat → Option (List AV)} {a b : Fr} (h : Alike a b) : evalO G a = evalO G b := by
  funext x
  cases x <;> simp only [evalO, h.1.2.1, h.1.2.2, h.2]
theorem evalL_alike {G : Nat → Option (List AV)} {a b : Fr} (h : Alike a b) : evalL G a = evalL G b := by
  funext l
  induction l with
  | nil => rfl
  | cons x l ih => simp only [evalL, evalO_alike h, ih]
theorem evalOpt_alike {G : Nat → Option (List AV)} {a b : Fr} (h : Alike a b) : evalOpt G a = evalOpt G b := by
  funext x
  cases x <;> simp only [evalOpt, evalO_alike h]
theorem evalParts_alike {G : Nat → Option (List AV)} {a b : Fr} (h : Alike a b) : evalParts G a = evalParts G b := by
  funext l
  induction l with
  | nil => rfl
  | cons x l ih => obtain ⟨i, x⟩ := x; simp only [evalParts, evalO_alike h, ih]
theorem plan_alike {T : TT} {p : FuncId → Option Prim} {m : TypeId → Bool} {G : Nat → Option (List AV)} {a b : Fr} (h : Alike a b) (o : Op) : plan T p m G a o = plan T p m G b o := by
  unfold plan
  rw [evalO_alike h, evalL_alike h, evalOpt_alike h, evalParts_alike h]
theorem wanted_alike {all : List Oper} {a b : Fr} (h : Alike a b) (g : Option (Nat × Bool)) : wanted all a g = wanted all b g := by
  unfold wanted
  simp only [h.2]
theorem oper_alike {X : Cx} {all : List Oper} {a b : Fr} (h : Alike a b) (st : St) (o : Oper) : oper X all a st o = oper X all b st o := by
  unfold oper
  rw [wanted_alike h, plan_alike h]
theorem resultOf_alike {T : TT} {a b : Fr} (h : Alike a b) (st : St) (r : ResultVar) : resultOf T a st r = resultOf T b st r := by
  cases r <;> simp only [resultOf, h.2]
theorem FR.start (n : Nat) (h : n < 1000) : FR ⟨n, .leaf, false⟩ n nilF := ⟨rfl, rfl, h, fun i => by rw [kget_nil]; unfold Fr.get; dsimp only; rw [Tr.get_leaf]; rfl⟩
theorem FR.args {n : Nat} : ∀ (args : List AV) (i : Nat) (t : Tr AV) (f : Frm), FR ⟨n, t, false⟩ n f → i + args.length ≤ n → FR ⟨n, putAll i args t, false⟩ n (putAllK i args f)
  | [], _, _, _, h, _ => h
  | v :: l, i, t, f, h, hl => by
    simp only [List.length_cons] at hl
    refine FR.args l (i + 1) (t.put i v) (putP (pl i) f v) ⟨rfl, rfl, h.le, fun j => ?_⟩ (by omega)
    rw [kget_put f v j (by have := h.le; omega)]
    have := h.get j
    unfold Fr.get at this ⊢
    dsimp only at this ⊢
    rw [Tr.get_put]
    split
    · rfl
    · exact this
end Go.VM
/- The fast machine's operations do what the machine's do. -/
namespace Go.VM
theorem trO_ok {G : Nat → Option (List AV)} {fr : Fr} {n : Nat} {t : Frm} (h : FR fr n t) {x : Operand} {k : KO} (hk : trO G x = some k) : evalO G fr x = .ok (getO k t) := by
  cases x with
  | tmp i =>
    simp only [trO] at hk
    cases hi : i.blt 1000 with
    | false => rw [hi] at hk; cases hk
    | true =>
      rw [hi] at hk
      have hk : some (KO.t (pl i).g) = some k := hk
      cases hk
      have he : evalO G fr (.tmp i) = .ok (fr.get i) := by simp only [evalO, h.s]
      rw [he]
      show Except.ok (fr.get i) = .ok (getP (pl i) t)
      rw [h.get i]
      unfold kget
      rw [hi]
  | const v =>
    simp only [trO] at hk
    split at hk
    · rename_i a ha
      cases hk
      exact ha
    · cases hk
  | global g =>
    simp only [trO] at hk
    split at hk
    · rename_i cs hcs
      cases hk
      show (match G g with | some cs => Except.ok (AV.ip cs) | none => .error _) = _
      rw [hcs]; rfl
    · cases hk
  | func g => cases hk; rfl
theorem trOs_ok {G : Nat → Option (List AV)} {fr : Fr} {n : Nat} {t : Frm} (h : FR fr n t) : ∀ {l : List Operand} {k : List KO}, trOs G l = some k → evalL G fr l = .ok (getOs k t)
  | [], k, hk => by cases hk; rfl
  | x :: l, k, hk => by
    simp only [trOs] at hk
    split at hk
    · cases hk
    · rename_i a ha
      split at hk
      · cases hk
      · rename_i b hb
        cases hk
        simp only [evalL, trO_ok h ha, trOs_ok h hb]
        rfl
/- What the eliminators tell. -/
theorem boolK_t {v : AV} {k : Bool → Bool} (h : boolK v k = true) : ∃ b, v = .bool b ∧ k b = true := by
  cases v <;> first | exact ⟨_, rfl, h⟩ | cases h
theorem intK_t {v : AV} {k : IntKind → Int → Bool} (h : intK v k = true) : ∃ a n, v = .int a n ∧ k a n = true := by
  cases v <;> first | exact ⟨_, _, rfl, h⟩ | cases h
theorem natK_t {v : AV} {k : Nat → Bool} (h : natK v k = true) : ∃ a n, v = .int a (.ofNat n) ∧ k n = true := by
  cases v <;> first | cases h | skip
  rename_i a n
  cases n with
  | ofNat m => exact ⟨_, _, rfl, h⟩
  | negSucc m => cases h
theorem strK_t {v : AV} {k : List UInt8 → Bool} (h : strK v k = true) : ∃ s, v = .str s ∧ k s = true := by
  cases v <;> first | exact ⟨_, rfl, h⟩ | cases h
theorem adrK_t {v : AV} {k : List AV → Bool} {k' : Nat → Nat → Bool} (h : adrK v k k' = true) : (∃ c, v = .ip c ∧ k c = true) ∨ ∃ i o, v = .mp i o ∧ k' i o = true := by
  cases v <;> first | exact .inl ⟨_, rfl, h⟩ | exact .inr ⟨_, _, rfl, h⟩ | cases h
theorem slK_t {v : AV} {k : Bool} {k' : Nat → List AV → Bool} {k'' : Nat → Nat → Nat → Nat → Bool} {k3 : Nat → Nat → Nat → Bool} (h : slK v k k' k'' k3 = true) :
    (v = .nils ∧ k = true) ∨ (∃ z e p, v = .sl z e p ∧ k' z e = true) ∨ (∃ i o z n c, v = .ms i o z n c ∧ k'' i o z n = true) ∨ ∃ i z n, v = .gs i z n ∧ k3 i z n = true := by
  cases v <;> first | exact .inl ⟨rfl, h⟩ | exact .inr (.inl ⟨_, _, _, rfl, h⟩) | exact .inr (.inr (.inl ⟨_, _, _, _, _, rfl, h⟩)) | exact .inr (.inr (.inr ⟨_, _, _, rfl, h⟩)) | cases h
theorem gpK_t {v : AV} {k k' : Bool} (h : gpK v k k' = true) : (∃ i n o, v = .gp i n o ∧ k = true) ∨ ((∀ i n o, v ≠ .gp i n o) ∧ k' = true) := by
  cases v <;> first | exact .inl ⟨_, _, _, rfl, h⟩ | exact .inr ⟨fun _ _ _ e => (by cases e), h⟩
theorem aggK_t {v : AV} {k : List AV → Bool} (h : aggK v k = true) : ∃ c, v = .agg c ∧ k c = true := by
  cases v <;> first | exact ⟨_, rfl, h⟩ | cases h
theorem tupK_t {v : AV} {k : List AV → Bool} (h : tupK v k = true) : ∃ c, v = .tup c ∧ k c = true := by
  cases v <;> first | exact ⟨_, rfl, h⟩ | cases h
theorem andK_t {b k : Bool} (h : andK b k = true) : b = true ∧ k = true := by
  cases b
  · cases h
  · exact ⟨rfl, h⟩
theorem tlK_drop {α : Type} : ∀ (n : Nat) (l : List α), tlK (l.drop n) = l.drop (n + 1)
  | 0, [] => rfl
  | 0, _ :: _ => rfl
  | _ + 1, [] => by simp; rfl
  | n + 1, a :: l => by rw [List.drop_succ_cons, List.drop_succ_cons]; exact tlK_drop n l
theorem dropK_eq {α : Type} (l : List α) : ∀ n, dropK l n = l.drop n
  | 0 => rfl
  | n + 1 => by
    show tlK (dropK l n) = _
    rw [dropK_eq l n, tlK_drop]
theorem nthK_t {n : Nat} {l : List AV} {k : AV → Bool} (h : nthK n l k = true) : ∃ v, nthAV l n = .ok v ∧ n < l.length ∧ k v = true := by
  unfold nthK at h
  rw [dropK_eq] at h
  cases hd : l.drop n with
  | nil => rw [hd] at h; cases h
  | cons a m =>
    rw [hd] at h
    have : n < l.length := by
      have e := congrArg List.length hd
      simp only [List.length_drop, List.length_cons] at e
      omega
    refine ⟨a, ?_, this, h⟩
    clear h
    induction n generalizing l with
    | zero => cases l with
      | nil => cases hd
      | cons b l => cases hd; rfl
    | succ n ih => cases l with
      | nil => cases hd
      | cons b l => exact ih (l := l) hd (by simpa using this)
theorem nthB_t {n : Nat} {l : List UInt8} {k : UInt8 → Bool} (h : nthB n l k = true) : ∃ v, l[n]? = some v ∧ n < l.length ∧ k v = true := by
  unfold nthB at h
  rw [dropK_eq] at h
  cases hd : l.drop n with
  | nil => rw [hd] at h; cases h
  | cons a m =>
    rw [hd] at h
    have e := congrArg List.length hd
    simp only [List.length_drop, List.length_cons] at e
    refine ⟨a, ?_, by omega, h⟩
    have := List.getElem?_drop (xs := l) (i := n) (j := 0)
    rw [hd] at this
    simpa using this.symm
theorem shortK_f : ∀ {n : Nat} {l : List AV}, shortK n l = false → n < l.length
  | 0, [], h => by cases h
  | 0, a :: l, h => by simp
  | n + 1, [], h => by cases h
  | n + 1, a :: l, h => by
    have := shortK_f (n := n) (l := l) h
    simp; omega
theorem setK_eq : ∀ {n : Nat} {l : List AV} (v : AV), n < l.length → setK n l v = splice l n [v]
  | 0, [], v, h => by simp at h
  | 0, a :: l, v, h => by
    show v :: l = _
    simp [splice]
  | n + 1, [], v, h => by simp at h
  | n + 1, a :: l, v, h => by
    have := setK_eq (n := n) (l := l) v (by simpa using h)
    show a :: setK n l v = _
    rw [this]
    simp [splice]
theorem getN_eq : ∀ (t : Tr Obj) (n : Nat), getN t n = t.get n
  | .leaf, n => by rw [Tr.get_leaf]; rfl
  | .node v l r, n => by
    rw [Tr.get]
    show Bool.rec (motive := fun _ => Option Obj) (Bool.rec (motive := fun _ => Option Obj) (getN r (Nat.pred (Nat.div n 2))) (getN l (Nat.div n 2)) (Nat.beq (Nat.mod n 2) 1)) v (Nat.beq n 0) = _
    rw [getN_eq l, getN_eq r]
    cases n.beq 0 with
    | true => rfl
    | false =>
      show Bool.rec (motive := fun _ => Option Obj) _ _ (Nat.beq (n % 2) 1) = _
      cases (n % 2).beq 1 <;> rfl
theorem setN_eq : ∀ (f : Nat) (t : Tr Obj) (n : Nat) (x : Obj), setN f t n x = Tr.set f t n x
  | 0, t, n, x => rfl
  | f + 1, t, n, x => by
    have ih := setN_eq f
    cases t with
    | leaf =>
      rw [Tr.set]
      show Bool.rec (motive := fun _ => Tr Obj) (Bool.rec (motive := fun _ => Tr Obj) (Tr.node none .leaf (setN f .leaf (Nat.pred (Nat.div n 2)) x)) (Tr.node none (setN f .leaf (Nat.div n 2) x) .leaf) (Nat.beq (Nat.mod n 2) 1)) (Tr.node (some x) .leaf .leaf) (Nat.beq n 0) = _
      rw [ih, ih]
      cases n.beq 0 with
      | true => rfl
      | false =>
        show Bool.rec (motive := fun _ => Tr Obj) _ _ (Nat.beq (n % 2) 1) = _
        cases (n % 2).beq 1 <;> rfl
    | node v l r =>
      rw [Tr.set]
      show Bool.rec (motive := fun _ => Tr Obj) (Bool.rec (motive := fun _ => Tr Obj) (Tr.node v l (setN f r (Nat.pred (Nat.div n 2)) x)) (Tr.node v (setN f l (Nat.div n 2) x) r) (Nat.beq (Nat.mod n 2) 1)) (Tr.node (some x) l r) (Nat.beq n 0) = _
      rw [ih, ih]
      cases n.beq 0 with
      | true => rfl
      | false =>
        show Bool.rec (motive := fun _ => Tr Obj) _ _ (Nat.beq (n % 2) 1) = _
        cases (n % 2).beq 1 <;> rfl
theorem appK_eq (d : Did) (st : St) : appK d st = d.app st := by
  cases d with
  | kept => rfl
  | looked => rfl
  | all a b => rfl
  | wrote id o =>
    obtain ⟨h, ro, objs⟩ := st
    show (⟨h, ro, setN (Nat.succ id) objs id o⟩ : St) = ⟨h, ro, objs.put id o⟩
    rw [setN_eq]; rfl
  | made n o =>
    obtain ⟨h, ro, objs⟩ := st
    show (⟨Nat.succ h, ro, setN (Nat.succ h) objs h o⟩ : St) = ⟨h + 1, ro, objs.put h o⟩
    rw [setN_eq]; rfl
theorem objK_t {st : St} {i : Nat} {k : Obj → Bool} (h : objK st i k = true) : ∃ o, st.get i = .ok o ∧ k o = true := by
  obtain ⟨m, ro, objs⟩ := st
  obtain ⟨h1, h2⟩ := andK_t (k := Option.rec (motive := fun _ => Bool) false (fun o => k o) (getN objs i)) h
  cases hg : getN objs i with
  | none => rw [hg] at h2; cases h2
  | some o =>
    rw [hg] at h2
    rw [getN_eq] at hg
    exact ⟨o, St.get_ok.2 ⟨Nat.le_of_ble_eq_true h1, hg⟩, h2⟩
theorem cellsK_t {o : Obj} {k : TypeId → List AV → Bool} (h : cellsK o k = true) : ∃ t cs, o = .cells t cs ∧ k t cs = true := by
  cases o <;> first | exact ⟨_, _, rfl, h⟩ | cases h
theorem growK_t {o : Obj} {k : Nat → Nat → List AV → Bool} (h : growK o k = true) : ∃ n e z es, o = .grow n e z es ∧ k n z es = true := by
  cases o <;> first | exact ⟨_, _, _, _, rfl, h⟩ | cases h
theorem takeK_t {size : Nat} {agg : Bool} {cs : List AV} {k : AV → Bool} (h : takeK size agg cs k = true) : ∃ v, takeCells size agg cs = .ok v ∧ k v = true := by
  cases agg with
  | false =>
    cases cs with
    | nil => cases h
    | cons v l => exact ⟨v, rfl, h⟩
  | true =>
    have h : Bool.rec (motive := fun _ => Bool) (andK (Nat.ble size cs.length) (k (.agg (cs.take size)))) (k (.agg cs)) (Nat.beq size cs.length) = true := h
    cases hb : Nat.beq size cs.length with
    | true =>
      rw [hb] at h
      have e := Nat.eq_of_beq_eq_true hb
      refine ⟨.agg cs, ?_, h⟩
      simp only [takeCells]
      rw [Nat.ble_eq_true_of_le (Nat.le_of_eq e), e, List.take_length]
    | false =>
      rw [hb] at h
      obtain ⟨h1, h2⟩ := andK_t h
      exact ⟨_, by simp only [takeCells, h1], h2⟩
theorem notK_eq (b : Bool) : notK b = !b := by cases b <;> rfl
theorem notK_f {b : Bool} (h : notK b = true) : b = false := by cases b; rfl; cases h
theorem flatV_ok {v : AV} (h : flatV v = true) : strip v = v ∧ bare v = true ∧ ∀ (st : St) (b n : Nat), freeze st b (n + 1) v = .ok v := by
  cases v <;> first | (cases h; done) | exact ⟨rfl, rfl, fun _ _ _ => rfl⟩
theorem flatAll_ok : ∀ {l : List AV}, flatAll l = true → bares l = true ∧ ∀ (st : St) (b n : Nat), allE (freeze st b (n + 1)) l = .ok l
  | [], _ => ⟨rfl, fun _ _ _ => rfl⟩
  | v :: l, h => by
    obtain ⟨h1, h2⟩ := andK_t (b := flatV v) (k := flatAll l) h
    obtain ⟨_, b1, f1⟩ := flatV_ok h1
    obtain ⟨b2, f2⟩ := flatAll_ok h2
    refine ⟨?_, fun st b n => ?_⟩
    · show (bare v && bares l) = true
      rw [b1, b2]; rfl
    · simp only [allE, f1, f2]; rfl
theorem flatT_ok {v : AV} (h : flatT v = true) : bare v = true ∧ ∀ (st : St) (b : Nat), freeze st b 100 v = .ok v := by
  cases v with
  | tup vs =>
    obtain ⟨h1, h2⟩ := flatAll_ok (l := vs) h
    exact ⟨h1, fun st b => by show (do pure (AV.tup (← allE (freeze st b (98 + 1)) vs))) = _; rw [h2]; rfl⟩
  | _ => first | (cases h; done) | exact ⟨rfl, fun _ _ => rfl⟩
theorem stripsK_eq : ∀ (l : List AV), stripsK l = l.map strip
  | [] => rfl
  | v :: l => by
    show stripK v :: stripsK l = _
    rw [stripsK_eq l]
    unfold stripK
    cases h : flatV v with
    | true => rw [List.map_cons, (flatV_ok h).1]
    | false => rfl
theorem baresK_eq : ∀ (l : List AV), baresK l = bares (l.map strip)
  | [] => rfl
  | v :: l => by
    show andK (Bool.rec (motive := fun _ => Bool) (bare (strip v)) true (flatV v)) (baresK l) = (bare (strip v) && bares (l.map strip))
    rw [baresK_eq l]
    cases h : flatV v with
    | true => rw [(flatV_ok h).1, (flatV_ok h).2.1]; rfl
    | false =>
      show andK (bare (strip v)) _ = _
      cases bare (strip v) <;> rfl
theorem lenB_eq (l : List UInt8) : lenB l = l.length := by
  have : ∀ (l : List UInt8) (n : Nat), List.rec (motive := fun _ => Nat → Nat) (fun n => n) (fun _ _ ih n => Bool.rec (motive := fun _ => Nat) (ih (Nat.succ n)) (ih (Nat.succ n)) (Nat.beq n 0)) l n = n + l.length := by
    intro l
    induction l with
    | nil => intro n; rfl
    | cons a l ih =>
      intro n
      show Bool.rec (motive := fun _ => Nat) _ _ (Nat.beq n 0) = _
      rw [List.length_cons]
      cases Nat.beq n 0 <;> (dsimp only; rw [ih]; omega)
  unfold lenB
  rw [this, Nat.zero_add]
theorem takeB_eq {l : List UInt8} {n : Nat} : takeB l n = l.take n := by
  unfold takeB
  cases h : Nat.beq n l.length with
  | true => rw [Nat.eq_of_beq_eq_true h, List.take_length]
  | false => rfl
theorem allB_ok : ∀ {n : Nat} {l : List AV}, allB n l = true → n ≤ l.length ∧ bytesOf (l.take n) = .ok (mapB n l)
  | 0, l, _ => ⟨Nat.zero_le _, by rw [List.take_zero]; rfl⟩
  | n + 1, [], h => by cases h
  | n + 1, v :: l, h => by
    obtain ⟨h1, h2⟩ := andK_t (b := byteK v) (k := allB n l) h
    obtain ⟨h3, h4⟩ := allB_ok h2
    refine ⟨by simp; omega, ?_⟩
    have : ∃ m, v = .int .u8 m := by
      cases v <;> first | (cases h1; done) | skip
      rename_i k m
      have := of_decide_eq_true (show decide (k = .u8) = true from h1)
      subst this
      exact ⟨m, rfl⟩
    obtain ⟨m, rfl⟩ := this
    rw [List.take_succ_cons]
    simp only [bytesOf, h4]
    rfl
/- Numbers. -/
theorem wrap_low (k : IntKind) (n : Int) (h : -(lowK k : Int) ≤ n) (h' : n < 0) : k.wrap n = n := by
  cases k <;> simp [IntKind.wrap, IntKind.bits, IntKind.signed, lowK] at h ⊢ <;> omega
theorem wrapK_eq (k : IntKind) (n : Int) : wrapK k n = k.wrap n := by
  cases n with
  | ofNat m =>
    show Bool.rec (motive := fun _ => Int) (k.wrap (.ofNat m)) (.ofNat m) (Nat.ble m (topK k)) = _
    cases h : Nat.ble m (topK k) with
    | false => rfl
    | true =>
      have := Nat.le_of_ble_eq_true h
      show Int.ofNat m = _
      cases k <;> simp only [topK] at this <;> simp [IntKind.wrap, IntKind.bits, IntKind.signed] <;> omega
  | negSucc m =>
    show Bool.rec (motive := fun _ => Int) (k.wrap (.negSucc m)) (.negSucc m) (Nat.ble (Nat.succ m) (lowK k)) = _
    cases h : Nat.ble (Nat.succ m) (lowK k) with
    | false => rfl
    | true =>
      have := Nat.le_of_ble_eq_true h
      show Int.negSucc m = _
      exact (wrap_low k _ (by rw [Int.negSucc_eq]; omega) (by rw [Int.negSucc_eq]; omega)).symm
theorem addK_eq (a b : Int) : addK a b = a + b := by
  cases a with
  | negSucc m => rfl
  | ofNat m =>
    cases b with
    | ofNat n => rfl
    | negSucc n =>
      show Bool.rec (motive := fun _ => Int) (Int.negSucc (Nat.sub n m)) (Int.ofNat (Nat.sub m (Nat.succ n))) (Nat.ble (Nat.succ n) m) = _
      cases h : Nat.ble (Nat.succ n) m with
      | true =>
        have := Nat.le_of_ble_eq_true h
        show Int.ofNat (m - (n + 1)) = _
        simp only [Int.ofNat_eq_natCast, Int.negSucc_eq]; omega
      | false =>
        have : ¬ n + 1 ≤ m := fun e => by rw [Nat.ble_eq_true_of_le e] at h; cases h
        show Int.negSucc (n - m) = _
        simp only [Int.ofNat_eq_natCast, Int.negSucc_eq]; omega
theorem subK_eq (a b : Int) : subK a b = a - b := by
  cases a with
  | negSucc m => rfl
  | ofNat m =>
    cases b with
    | ofNat n =>
      show Bool.rec (motive := fun _ => Int) (Int.negSucc (Nat.sub n (Nat.succ m))) (Int.ofNat (Nat.sub m n)) (Nat.ble n m) = _
      cases h : Nat.ble n m with
      | true =>
        have := Nat.le_of_ble_eq_true h
        show Int.ofNat (m - n) = _
        simp only [Int.ofNat_eq_natCast]; omega
      | false =>
        have : ¬ n ≤ m := fun e => by rw [Nat.ble_eq_true_of_le e] at h; cases h
        show Int.negSucc (n - (m + 1)) = _
        simp only [Int.ofNat_eq_natCast, Int.negSucc_eq]; omega
    | negSucc n =>
      show Int.ofNat (m + (n + 1)) = _
      simp only [Int.ofNat_eq_natCast, Int.negSucc_eq]; omega
theorem ble_dec (a b : Nat) : Nat.ble a b = decide (a ≤ b) := by
  cases h : Nat.ble a b with
  | true => rw [decide_eq_true (Nat.le_of_ble_eq_true h)]
  | false => rw [decide_eq_false fun e => by rw [Nat.ble_eq_true_of_le e] at h; cases h]
theorem beq_dec (a b : Nat) : Nat.beq a b = decide (a = b) := by
  cases h : Nat.beq a b with
  | true => rw [decide_eq_true (Nat.eq_of_beq_eq_true h)]
  | false => rw [decide_eq_false fun e => by subst e; rw [Nat.beq_refl] at h; cases h]
theorem ltK_eq (a b : Int) : ltK a b = decide (a < b) := by
  cases a <;> cases b
  · show Nat.ble (Nat.succ _) _ = _
    rw [ble_dec]; congr 1; simp only [Int.ofNat_eq_natCast, eq_iff_iff]; omega
  · show false = _
    rw [decide_eq_false]; simp only [Int.ofNat_eq_natCast, Int.negSucc_eq]; omega
  · show true = _
    rw [decide_eq_true]; simp only [Int.ofNat_eq_natCast, Int.negSucc_eq]; omega
  · show Nat.ble (Nat.succ _) _ = _
    rw [ble_dec]; congr 1; simp only [Int.negSucc_eq, eq_iff_iff]; omega
theorem eqK_eq (a b : Int) : eqK a b = decide (a = b) := by
  cases a <;> cases b
  · show Nat.beq _ _ = _
    rw [beq_dec]; congr 1; simp only [Int.ofNat_eq_natCast, eq_iff_iff]; omega
  · show false = _
    rw [decide_eq_false]; simp only [Int.ofNat_eq_natCast, Int.negSucc_eq]; omega
  · show false = _
    rw [decide_eq_false]; simp only [Int.ofNat_eq_natCast, Int.negSucc_eq]; omega
  · show Nat.beq _ _ = _
    rw [beq_dec]; congr 1; simp only [Int.negSucc_eq, eq_iff_iff]; omega
theorem eqS_eq : ∀ (a b : List UInt8), eqS a b = (a == b)
  | [], [] => rfl
  | [], _ :: _ => rfl
  | _ :: _, [] => rfl
  | x :: a, y :: b => by
    show Bool.rec (motive := fun _ => Bool) false (eqS a b) (Nat.beq x.toNat y.toNat) = _
    rw [eqS_eq a b]
    cases h : Nat.beq x.toNat y.toNat with
    | true =>
      have : x = y := UInt8.toNat_inj.1 (Nat.eq_of_beq_eq_true h)
      subst this
      simp
    | false =>
      have : x ≠ y := fun e => by subst e; rw [Nat.beq_refl] at h; cases h
      simp [this]
theorem bits_nat {k : IntKind} {m : Nat} (h : Nat.ble m (topK k) = true) : (BitVec.ofInt k.bits (Int.ofNat m)).toNat = m := by
  have h := Nat.le_of_ble_eq_true h
  rw [show Int.ofNat m = (m : Int) from rfl, BitVec.ofInt_natCast, BitVec.toNat_ofNat]
  refine Nat.mod_eq_of_lt ?_
  cases k <;> simp only [topK] at h <;> simp only [IntKind.bits] <;> omega
theorem top_pow (k : IntKind) : ∃ b, topK k + 1 = 2 ^ b := by
  cases k
  · exact ⟨7, rfl⟩
  · exact ⟨15, rfl⟩
  · exact ⟨31, rfl⟩
  · exact ⟨63, rfl⟩
  · exact ⟨8, rfl⟩
  · exact ⟨16, rfl⟩
  · exact ⟨32, rfl⟩
  · exact ⟨64, rfl⟩
theorem wrap_top {k : IntKind} {m : Nat} (h : m ≤ topK k) : k.wrap (m : Int) = m := by
  have := wrapK_eq k (.ofNat m)
  rw [← show Int.ofNat m = (m : Int) from rfl, ← this]
  show Bool.rec (motive := fun _ => Int) (k.wrap (.ofNat m)) (.ofNat m) (Nat.ble m (topK k)) = _
  rw [Nat.ble_eq_true_of_le h]
theorem bitsK_eq {f : Nat → Nat → Nat} {slow : IntKind → Int → Int → Int} {k : IntKind} (h : ∀ m n, Nat.ble m (topK k) = true → Nat.ble n (topK k) = true → (Int.ofNat (f m n)) = slow k (.ofNat m) (.ofNat n)) (a b : Int) : bitsK f slow k a b = slow k a b := by
  cases a with
  | negSucc m => rfl
  | ofNat m =>
    cases b with
    | negSucc n => rfl
    | ofNat n =>
      show Bool.rec (motive := fun _ => Int) (slow k (.ofNat m) (.ofNat n)) (Bool.rec (motive := fun _ => Int) (slow k (.ofNat m) (.ofNat n)) (.ofNat (f m n)) (Nat.ble n (topK k))) (Nat.ble m (topK k)) = _
      cases h1 : Nat.ble m (topK k) with
      | false => rfl
      | true =>
        cases h2 : Nat.ble n (topK k) with
        | false => rfl
        | true => exact h m n h1 h2
theorem and_fast {k : IntKind} (m n : Nat) (h1 : Nat.ble m (topK k) = true) (h2 : Nat.ble n (topK k) = true) : Int.ofNat (Nat.land m n) = slowAnd k (.ofNat m) (.ofNat n) := by
  unfold slowAnd
  rw [BitVec.toNat_and, bits_nat h1, bits_nat h2]
  obtain ⟨b, hb⟩ := top_pow k
  have l1 := Nat.le_of_ble_eq_true h1
  have l2 := Nat.le_of_ble_eq_true h2
  have : m &&& n < 2 ^ b := Nat.and_lt_two_pow m (by omega)
  exact (wrap_top (show Nat.land m n ≤ topK k from by have : Nat.land m n < 2 ^ b := this; omega)).symm
theorem or_fast {k : IntKind} (m n : Nat) (h1 : Nat.ble m (topK k) = true) (h2 : Nat.ble n (topK k) = true) : Int.ofNat (Nat.lor m n) = slowOr k (.ofNat m) (.ofNat n) := by
  unfold slowOr
  rw [BitVec.toNat_or, bits_nat h1, bits_nat h2]
  obtain ⟨b, hb⟩ := top_pow k
  have l1 := Nat.le_of_ble_eq_true h1
  have l2 := Nat.le_of_ble_eq_true h2
  have : m ||| n < 2 ^ b := Nat.or_lt_two_pow (by omega) (by omega)
  exact (wrap_top (show Nat.lor m n ≤ topK k from by have : Nat.lor m n < 2 ^ b := this; omega)).symm
theorem xor_fast {k : IntKind} (m n : Nat) (h1 : Nat.ble m (topK k) = true) (h2 : Nat.ble n (topK k) = true) : Int.ofNat (Nat.xor m n) = slowXor k (.ofNat m) (.ofNat n) := by
  unfold slowXor
  rw [BitVec.toNat_xor, bits_nat h1, bits_nat h2]
  obtain ⟨b, hb⟩ := top_pow k
  have l1 := Nat.le_of_ble_eq_true h1
  have l2 := Nat.le_of_ble_eq_true h2
  have : m ^^^ n < 2 ^ b := Nat.xor_lt_two_pow (by omega) (by omega)
  exact (wrap_top (show Nat.xor m n ≤ topK k from by have : Nat.xor m n < 2 ^ b := this; omega)).symm
theorem intG_ok {op : BinOp} {g : IntKind → Int → Int → AV} (h : intG op = some g) (k : IntKind) (a b : Int) : intOp op k a b = .ok (g k a b) ∧ op ≠ .shl ∧ op ≠ .shr := by
  cases op <;> simp only [intG, Option.some.injEq, reduceCtorEq] at h <;> subst h <;> refine ⟨?_, by decide, by decide⟩ <;>
    simp only [intOp, wrapK_eq, addK_eq, subK_eq, eqK_eq, ltK_eq, notK_eq, bitsK_eq and_fast, bitsK_eq or_fast, bitsK_eq xor_fast]
  all_goals first | rfl | skip
  all_goals
    congr 2
    by_cases h1 : b < a <;> by_cases h2 : a < b <;> simp [h1, h2] <;> omega
theorem strG_ok {op : BinOp} {g : List UInt8 → List UInt8 → AV} (h : strG op = some g) (a b : List UInt8) : strOp op a b = .ok (g a b) ∧ op ≠ .shl ∧ op ≠ .shr := by
  cases op <;> simp only [strG, Option.some.injEq, reduceCtorEq] at h <;> subst h <;> refine ⟨?_, by decide, by decide⟩ <;>
    simp only [strOp, eqS_eq, notK_eq]
end Go.VM
/- What the translation makes of an operation does what the operation does. -/
namespace Go.VM
/-- The fast callers tell what the callers tell. -/
structure KGood (K : KX) : Prop where
  bare : ∀ f args k, K.C.bare f args k = true → ∃ v, K.X.C.bare f args = .ok v ∧ k v = true
  wide : ∀ f args st k, K.C.wide f args st k = true → ∃ v s, K.X.C.wide f args st = .ok (v, s) ∧ k v s = true
  look : ∀ f args st k, K.C.look f args st k = true → ∃ v, K.X.C.look f args st = .ok v ∧ k v = true
structure KTOk (X : KT) (K : KX) : Prop where
  T : X.T = K.X.T
  prim : X.prim = K.X.prim
  imm : X.imm = K.X.imm
  G : X.G = K.X.G
  full : X.full = K.X.C.full
  isLook : X.isLook = K.X.C.isLook
  n : X.n = K.n
def run (X : Cx) (fr : Fr) (st : St) (o : Op) : Res (AV × Fx) := plan X.T X.prim X.imm X.G fr o >>= runPlan X.C st
def PV (K : KX) (fr : Fr) (t : Frm) (o : Op) (f : VF) : Prop := ∀ k, f t k = true → ∃ v, plan K.X.T K.X.prim K.X.imm K.X.G fr o = .ok (.val v) ∧ k v = true
def PX (K : KX) (fr : Fr) (t : Frm) (o : Op) (f : KFx) : Prop := ∀ st k, f K t st k = true → ∃ v x, run K.X fr st o = .ok (v, x) ∧ k v x = true
def TkOk (K : KX) (fr : Fr) (t : Frm) (o : Op) : Tk → Prop
  | .v f => PV K fr t o f
  | .x f => PX K fr t o f
theorem okBind {α β : Type} {x : Res α} {a : α} {f : α → Res β} (h : x = .ok a) : (x >>= f) = f a := by rw [h]; rfl
theorem PV.x {K : KX} {fr : Fr} {t : Frm} {o : Op} {f : VF} (h : PV K fr t o f) : PX K fr t o (opValX f) := by
  intro st k hk
  obtain ⟨v, h1, h2⟩ := h _ hk
  exact ⟨v, _, by rw [run, okBind h1]; rfl, h2⟩
theorem trV1_some {f : KO → VF} {G : Nat → Option (List AV)} {x : Operand} {tk : Tk} (h : trV1 f G x = some tk) : ∃ a, trO G x = some a ∧ tk = .v (f a) := by
  unfold trV1 at h
  split at h
  · rename_i a ha; cases h; exact ⟨a, ha, rfl⟩
  · cases h
theorem trV2_some {f : KO → KO → VF} {G : Nat → Option (List AV)} {x y : Operand} {tk : Tk} (h : trV2 f G x y = some tk) : ∃ a b, trO G x = some a ∧ trO G y = some b ∧ tk = .v (f a b) := by
  unfold trV2 at h
  split at h
  · rename_i a b ha hb; cases h; exact ⟨a, b, ha, hb, rfl⟩
  · cases h
theorem binOpN_int {T : TT} {op : BinOp} {t : TypeId} {yo : Operand} {a : AV} {k : IntKind} {n : Int} : binOpN T op t yo a (.int k n) = binOp T op t a (.int k n) := by
  have : nilC yo (.int k n) = false := by cases yo <;> rfl
  simp only [binOpN, this, Bool.false_and]
theorem binOpN_str {T : TT} {op : BinOp} {t : TypeId} {yo : Operand} {a : AV} {s : List UInt8} : binOpN T op t yo a (.str s) = binOp T op t a (.str s) := by
  have : nilC yo (.str s) = false := by cases yo <;> rfl
  simp only [binOpN, this, Bool.false_and]
theorem binOp_int {T : TT} {op : BinOp} {t : TypeId} {k : IntKind} {a b : Int} (h1 : op ≠ .shl) (h2 : op ≠ .shr) : binOp T op t (.int k a) (.int k b) = intOp op k a b := by
  cases op <;> first | exact absurd rfl h1 | exact absurd rfl h2 | simp [binOp]
theorem binOp_str {T : TT} {op : BinOp} {t : TypeId} {a b : List UInt8} (h1 : op ≠ .shl) (h2 : op ≠ .shr) : binOp T op t (.str a) (.str b) = strOp op a b := by
  cases op <;> first | exact absurd rfl h1 | exact absurd rfl h2 | simp [binOp]
variable {X : KT} {K : KX} {fr : Fr} {t : Frm}
theorem trMv_ok (hX : KTOk X K) (h : FR fr K.n t) {x : Operand} {tk : Tk} {o : Op} (ho : o = .move x ∨ o = .assign x) (ht : trV1 vMv X.G x = some tk) : TkOk K fr t o tk := by
  obtain ⟨a, ha, rfl⟩ := trV1_some ht
  intro k hk
  rw [hX.G] at ha
  refine ⟨_, ?_, hk⟩
  rcases ho with rfl | rfl <;> exact okBind (trO_ok h ha)
theorem trBin_ok (hX : KTOk X K) (h : FR fr K.n t) {op : BinOp} {ty ty' : TypeId} {x y : Operand} {tk : Tk} (ht : trBin X op ty x y = some tk) : TkOk K fr t (.binOp op ty x y ty') tk := by
  unfold trBin at ht
  split at ht
  · rename_i i hi
    split at ht
    · split at ht
      · rename_i g hg
        obtain ⟨a, b, ha, hb, rfl⟩ := trV2_some ht
        intro k hk
        rw [hX.G] at ha hb
        obtain ⟨ka, m, e1, hk⟩ := intK_t hk
        obtain ⟨kb, n, e2, hk⟩ := intK_t hk
        obtain ⟨e3, hk'⟩ := andK_t hk
        have e3 := of_decide_eq_true e3
        subst e3
        obtain ⟨g1, g2, g3⟩ := intG_ok hg ka m n
        refine ⟨_, ?_, hk'⟩
        show ((do binOpN K.X.T op ty y (← evalO K.X.G fr x) (← evalO K.X.G fr y)) >>= fun r => pure (Plan.val r)) = _
        rw [okBind (trO_ok h ha), okBind (trO_ok h hb), e1, e2, binOpN_int, binOp_int g2 g3, g1]; rfl
      · cases ht
    · split at ht
      · rename_i g hg
        obtain ⟨a, b, ha, hb, rfl⟩ := trV2_some ht
        intro k hk
        rw [hX.G] at ha hb
        obtain ⟨m, e1, hk⟩ := strK_t hk
        obtain ⟨n, e2, hk⟩ := strK_t hk
        obtain ⟨g1, g2, g3⟩ := strG_ok hg m n
        refine ⟨_, ?_, hk⟩
        show ((do binOpN K.X.T op ty y (← evalO K.X.G fr x) (← evalO K.X.G fr y)) >>= fun r => pure (Plan.val r)) = _
        rw [okBind (trO_ok h ha), okBind (trO_ok h hb), e1, e2, binOpN_str, binOp_str g2 g3, g1]; rfl
      · cases ht
    · cases ht
  · cases ht
theorem trNot_ok (hX : KTOk X K) (h : FR fr K.n t) {ty : TypeId} {x : Operand} {tk : Tk} (ht : trV1 vNot X.G x = some tk) : TkOk K fr t (.unOp .not ty x) tk := by
  obtain ⟨a, ha, rfl⟩ := trV1_some ht
  intro k hk
  rw [hX.G] at ha
  obtain ⟨b, e1, hk⟩ := boolK_t hk
  refine ⟨_, ?_, hk⟩
  show ((do unOp .not (← evalO K.X.G fr x)) >>= fun r => pure (Plan.val r)) = _
  rw [okBind (trO_ok h ha), e1, notK_eq]; rfl
theorem trConv_ok (hX : KTOk X K) (h : FR fr K.n t) {s d : TypeId} {x : Operand} {tk : Tk} (ht : trConv X s d x = some tk) : TkOk K fr t (.convert s d x) tk := by
  unfold trConv at ht
  split at ht
  · rename_i i j hi hj
    split at ht
    · rename_i ki kj ei ej
      obtain ⟨a, ha, rfl⟩ := trV1_some ht
      intro k hk
      rw [hX.G] at ha
      rw [hX.T] at hi hj
      obtain ⟨b, n, e1, hk⟩ := intK_t hk
      refine ⟨_, ?_, hk⟩
      show (do convertP K.X.T s d (← evalO K.X.G fr x)) = _
      rw [okBind (trO_ok h ha), e1, convertP, okBind hi, okBind hj, ei, ej, wrapK_eq]; rfl
    · rename_i e eu es
      split at ht
      · rename_i u hu
        split at ht
        · rename_i hby
          split at ht
          · rename_i a ha
            cases ht
            rw [hX.G] at ha
            rw [hX.T] at hi hj hu
            intro st k hk
            have e0 : ∀ v, getO a t = v → plan K.X.T K.X.prim K.X.imm K.X.G fr (.convert s d x) = convertP K.X.T s d v := by
              intro v hv
              show (do convertP K.X.T s d (← evalO K.X.G fr x)) = _
              rw [okBind (trO_ok h ha), hv]
            rcases slK_t hk with ⟨e1, hk⟩ | ⟨z, l, p, e1, hk⟩ | ⟨id, o, z, n, c, e1, hk⟩ | ⟨id, z, n, e1, hk⟩
            · exact ⟨_, _, by rw [run, e0 _ e1, convertP, okBind hi, okBind hj, eu, es]; dsimp only; rw [okBind hu, hby]; rfl, hk⟩
            · obtain ⟨b1, hk⟩ := andK_t hk
              obtain ⟨_, b2⟩ := allB_ok b1
              rw [List.take_length] at b2
              exact ⟨_, _, by rw [run, e0 _ e1, convertP, okBind hi, okBind hj, eu, es]; dsimp only; rw [okBind hu, hby]; dsimp only; rw [b2]; rfl, hk⟩
            · obtain ⟨ob, g1, hk⟩ := objK_t hk
              obtain ⟨ty', cs, rfl, hk⟩ := cellsK_t hk
              obtain ⟨b1, hk⟩ := andK_t hk
              rw [dropK_eq] at b1 hk
              obtain ⟨b2, b3⟩ := allB_ok b1
              refine ⟨_, _, ?_, hk⟩
              rw [run, e0 _ e1, convertP, okBind hi, okBind hj, eu, es]
              dsimp only
              rw [okBind hu, hby]
              show runPlan K.X.C st (readP id _) = _
              simp only [readP, runPlan]
              rw [okBind g1, okBind (a := (AV.str (mapB n (cs.drop o)), none)) (by
                show (do pure (← (match n.ble (cs.drop o).length with | true => (do pure (AV.str (← bytesOf ((cs.drop o).take n)))) | false => .error "convert: length"), none)) = _
                rw [Nat.ble_eq_true_of_le b2]
                dsimp only
                rw [b3]; rfl)]
              rfl
            · cases hk
          · cases ht
        · cases ht
      · cases ht
    · cases ht
  · cases ht
theorem trIface_ok (hX : KTOk X K) (h : FR fr K.n t) {ty : TypeId} {x : Operand} {tk : Tk} (ht : trIface X ty x = some tk) : TkOk K fr t (.makeInterface ty x) tk := by
  unfold trIface at ht
  split at ht
  · rename_i i hi
    rw [hX.T] at hi
    have key : ∀ tk, trV1 (vIface ty) X.G x = some tk → (∀ b, i.und ≠ .iface b) → i.und ≠ .other → TkOk K fr t (.makeInterface ty x) tk := by
      intro tk ht n1 n2
      obtain ⟨a, ha, rfl⟩ := trV1_some ht
      intro k hk
      rw [hX.G] at ha
      refine ⟨_, ?_, hk⟩
      show ((ti K.X.T ty >>= fun i => match i.und with
        | .iface _ | .other => (.error "makeInterface" : Res AV)
        | _ => do pure (AV.iface ty (← evalO K.X.G fr x))) >>= fun r => pure (Plan.val r)) = _
      rw [okBind hi]
      cases hu : i.und <;> first | exact absurd hu (n1 _) | exact absurd hu n2 | (dsimp only; rw [okBind (trO_ok h ha)]; rfl)
    cases hu : i.und <;> rw [hu] at ht <;> first | cases ht | exact key _ ht (by intro b e; rw [hu] at e; cases e) (by intro e; rw [hu] at e; cases e)
  · cases ht
theorem trFieldAddr_ok (hX : KTOk X K) (h : FR fr K.n t) {ty : TypeId} {x : Operand} {f : Nat} {tk : Tk} (ht : trFieldAddr X ty x f = some tk) : TkOk K fr t (.fieldAddr ty x f) tk := by
  unfold trFieldAddr at ht
  split at ht
  · rename_i i hi
    split at ht
    · rename_i fs hu
      split at ht
      · rename_i off ft hf
        split at ht
        · rename_i j hj
          split at ht
          · cases ht
          · rename_i n hn
            obtain ⟨a, ha, rfl⟩ := trV1_some ht
            intro k hk
            rw [hX.G] at ha
            rw [hX.T] at hi hj
            have e : ∀ v, getO a t = v → (do fieldAddr K.X.T ty (← evalO K.X.G fr x) f) = (match v with
              | .ip cells => (pure (.ip (cells.drop off)) : Res AV)
              | .mp id o => pure (.mp id (o + off))
              | .gp k n o => pure (.gp k n (o + off))
              | _ => .error "fieldAddr: no address") := by
              intro v hv
              rw [okBind (trO_ok h ha), fieldAddr, okBind hi, hu]
              dsimp only
              rw [hf]
              dsimp only
              rw [okBind hj, hn, hv]
              cases v <;> rfl
            rcases adrK_t hk with ⟨c, e1, hk⟩ | ⟨i, o, e1, hk⟩
            · rw [dropK_eq] at hk
              refine ⟨_, ?_, hk⟩
              show ((do fieldAddr K.X.T ty (← evalO K.X.G fr x) f) >>= fun r => pure (Plan.val r)) = _
              rw [e _ e1]; rfl
            · refine ⟨_, ?_, hk⟩
              show ((do fieldAddr K.X.T ty (← evalO K.X.G fr x) f) >>= fun r => pure (Plan.val r)) = _
              rw [e _ e1]; rfl
        · cases ht
      · cases ht
    · cases ht
  · cases ht
theorem trField_ok (hX : KTOk X K) (h : FR fr K.n t) {ty : TypeId} {x : Operand} {f : Nat} {tk : Tk} (ht : trField X ty x f = some tk) : TkOk K fr t (.field ty x f) tk := by
  unfold trField at ht
  split at ht
  · rename_i i hi
    split at ht
    · rename_i fs hu
      split at ht
      · rename_i off ft hf
        split at ht
        · rename_i j hj
          obtain ⟨a, ha, rfl⟩ := trV1_some ht
          intro k hk
          rw [hX.G] at ha
          rw [hX.T] at hi hj
          obtain ⟨c, e1, hk⟩ := aggK_t hk
          obtain ⟨v, e2, hk⟩ := takeK_t hk
          rw [dropK_eq] at e2
          refine ⟨v, ?_, hk⟩
          show ((do field K.X.T ty (← evalO K.X.G fr x) f) >>= fun r => pure (Plan.val r)) = _
          rw [okBind (trO_ok h ha), e1, field, okBind hi, hu]
          dsimp only
          rw [hf]
          dsimp only
          rw [okBind hj, e2]; rfl
        · cases ht
      · cases ht
    · cases ht
  · cases ht
theorem plan_index {ty : TypeId} {x y : Operand} {v : AV} (hx : evalO K.X.G fr x = .ok v) (hn : ∀ k z n, v ≠ .gs k z n) : plan K.X.T K.X.prim K.X.imm K.X.G fr (.indexAddr ty x y) = ((do indexAddr K.X.T ty v (← evalO K.X.G fr y)) >>= fun r => pure (Plan.val r)) := by
  show (do
    match ← evalO K.X.G fr x with
    | .gs k z n => do gsIndexP K.X.T ty k z n (← evalO K.X.G fr y)
    | x => (do indexAddr K.X.T ty x (← evalO K.X.G fr y)) >>= fun r => pure (Plan.val r)) = _
  rw [okBind hx]
  cases v <;> first | rfl | exact absurd rfl (hn _ _ _)
theorem trIndexAddr_ok (hX : KTOk X K) (h : FR fr K.n t) {ty : TypeId} {x y : Operand} {tk : Tk} (ht : trIndexAddr X ty x y = some tk) : TkOk K fr t (.indexAddr ty x y) tk := by
  unfold trIndexAddr at ht
  split at ht
  · rename_i i hi
    split at ht
    · rename_i e hu
      split at ht
      · rename_i j hj
        split at ht
        · rename_i a b ha hb
          cases ht
          rw [hX.G] at ha hb
          rw [hX.T] at hi hj
          intro st k hk
          obtain ⟨kk, m, e2, hk⟩ := natK_t hk
          have hb' : evalO K.X.G fr y = .ok (.int kk (.ofNat m)) := by rw [trO_ok h hb, e2]
          rcases slK_t hk with ⟨_, hk⟩ | ⟨z, es, p, e1, hk⟩ | ⟨id, o, z, n, c, e1, hk⟩ | ⟨id, z, n, e1, hk⟩
          · cases hk
          · obtain ⟨e3, hk⟩ := andK_t hk
            obtain ⟨v, e4, e5, hk⟩ := nthK_t hk
            refine ⟨_, _, ?_, hk⟩
            have e0 : indexAddr K.X.T ty (.sl z es p) (.int kk (.ofNat m)) = .ok (.ip v.cells) := by
              rw [indexAddr, okBind (show asInt (.int kk (.ofNat m)) = .ok (.ofNat m) from rfl), okBind hi, hu]
              dsimp only
              rw [okBind (show inside (.ofNat m) es.length = .ok m by simp only [inside, blt_t e5]), okBind hj, e3]
              dsimp only
              rw [okBind e4]; rfl
            rw [run, plan_index (v := .sl z es p) (by rw [trO_ok h ha, e1]) (fun _ _ _ e => by cases e), okBind hb', e0]; rfl
          · obtain ⟨e3, hk⟩ := andK_t hk
            obtain ⟨e4, hk⟩ := andK_t hk
            refine ⟨_, _, ?_, hk⟩
            have e0 : indexAddr K.X.T ty (.ms id o z n c) (.int kk (.ofNat m)) = .ok (.mp id (o + m * z)) := by
              rw [indexAddr, okBind (show asInt (.int kk (.ofNat m)) = .ok (.ofNat m) from rfl), okBind hi, hu]
              dsimp only
              rw [okBind (show inside (.ofNat m) n = .ok m by simp only [inside, blt_t (Nat.le_of_ble_eq_true e4)]), okBind hj, e3]
              rfl
            rw [run, plan_index (v := .ms id o z n c) (by rw [trO_ok h ha, e1]) (fun _ _ _ e => by cases e), okBind hb', e0]; rfl
          · obtain ⟨e3, hk⟩ := andK_t hk
            obtain ⟨e4, hk⟩ := andK_t hk
            obtain ⟨ob, g1, hk⟩ := objK_t hk
            obtain ⟨n', e', z', es, rfl, hk⟩ := growK_t hk
            obtain ⟨e5, hk⟩ := andK_t hk
            obtain ⟨e6, hk⟩ := andK_t hk
            have hp : plan K.X.T K.X.prim K.X.imm K.X.G fr (.indexAddr ty x y) = gsIndexP K.X.T ty id z n (.int kk (.ofNat m)) := by
              show (do
                match ← evalO K.X.G fr x with
                | .gs k z n => do gsIndexP K.X.T ty k z n (← evalO K.X.G fr y)
                | x => (do indexAddr K.X.T ty x (← evalO K.X.G fr y)) >>= fun r => pure (Plan.val r)) = _
              rw [okBind (trO_ok h ha), e1]
              dsimp only
              rw [okBind hb']
            rw [run, hp, gsIndexP, okBind (show asInt (.int kk (.ofNat m)) = .ok (.ofNat m) from rfl), okBind (show inside (.ofNat m) n = .ok m by simp only [inside, blt_t (Nat.le_of_ble_eq_true e4)]), okBind hi, hu]
            dsimp only
            rw [okBind hj, e3]
            dsimp only
            show ∃ v x, runPlan K.X.C st (readP id _) = .ok (v, x) ∧ _
            simp only [readP, runPlan]
            rw [okBind g1]
            cases hlt : Nat.ble (Nat.succ m) es.length with
            | true =>
              rw [hlt] at hk
              obtain ⟨v, e7, e8, hk⟩ := nthK_t hk
              refine ⟨_, _, ?_, hk⟩
              simp only [e5, e6, Bool.and_self, show m.blt es.length = true from hlt]
              rw [okBind (a := (AV.ip v.cells, none)) (by rw [okBind e7]; rfl)]; rfl
            | false =>
              rw [hlt] at hk
              refine ⟨_, _, ?_, hk⟩
              simp only [e5, e6, Bool.and_self, show m.blt es.length = false from hlt]
              rfl
        · cases ht
      · cases ht
    · rename_i len e hu
      split at ht
      · rename_i j hj
        obtain ⟨a, b, ha, hb, rfl⟩ := trV2_some ht
        intro k hk
        rw [hX.G] at ha hb
        rw [hX.T] at hi hj
        obtain ⟨kk, m, e2, hk⟩ := natK_t hk
        obtain ⟨e4, hk⟩ := andK_t hk
        have e0 : ∀ v, getO a t = v → (do indexAddr K.X.T ty (← evalO K.X.G fr x) (← evalO K.X.G fr y)) = (match v with
            | .mp id off => (pure (.mp id (off + m * j.size)) : Res AV)
            | .ip cells => pure (.ip (cells.drop (m * j.size)))
            | _ => (do indexAddr K.X.T ty v (.int kk (.ofNat m)))) := by
          intro v hv
          rw [okBind (trO_ok h ha), okBind (trO_ok h hb), hv, e2]
          have hin : inside (.ofNat m) len = .ok m := by simp only [inside, blt_t (Nat.le_of_ble_eq_true e4)]
          cases v <;> first | rfl | skip
          all_goals
            rw [indexAddr, okBind (show asInt (.int kk (.ofNat m)) = .ok (.ofNat m) from rfl), okBind hi, hu]
            dsimp only
            rw [okBind hin, okBind hj]
        rcases adrK_t hk with ⟨c, e1, hk⟩ | ⟨id, o, e1, hk⟩
        · rw [dropK_eq] at hk
          refine ⟨_, ?_, hk⟩
          have e6 := e0 _ e1
          rw [okBind (trO_ok h ha), e1] at e6
          rw [plan_index (v := .ip c) (by rw [trO_ok h ha, e1]) (fun _ _ _ e => by cases e), e6]; rfl
        · refine ⟨_, ?_, hk⟩
          have e6 := e0 _ e1
          rw [okBind (trO_ok h ha), e1] at e6
          rw [plan_index (v := .mp id o) (by rw [trO_ok h ha, e1]) (fun _ _ _ e => by cases e), e6]; rfl
      · cases ht
    · cases ht
  · cases ht
theorem trIndex_ok (hX : KTOk X K) (h : FR fr K.n t) {ty : TypeId} {x y : Operand} {tk : Tk} (ht : trIndex X ty x y = some tk) : TkOk K fr t (.index ty x y) tk := by
  unfold trIndex at ht
  split at ht
  · rename_i i hi
    split at ht
    · rename_i hu
      obtain ⟨a, b, ha, hb, rfl⟩ := trV2_some ht
      intro k hk
      rw [hX.G] at ha hb
      rw [hX.T] at hi
      obtain ⟨kk, m, e2, hk⟩ := natK_t hk
      obtain ⟨s, e1, hk⟩ := strK_t hk
      obtain ⟨v, e4, e5, hk⟩ := nthB_t hk
      refine ⟨_, ?_, hk⟩
      show ((do indexV K.X.T ty (← evalO K.X.G fr x) (← evalO K.X.G fr y)) >>= fun r => pure (Plan.val r)) = _
      rw [okBind (trO_ok h ha), okBind (trO_ok h hb), e1, e2, indexV, okBind (show asInt (.int kk (.ofNat m)) = .ok (.ofNat m) from rfl), okBind hi, hu]
      dsimp only
      rw [okBind (show inside (.ofNat m) s.length = .ok m by simp only [inside, blt_t e5]), e4]; rfl
    · cases ht
  · cases ht
theorem trNil_ok (hX : KTOk X K) (h : FR fr K.n t) {x : Operand} {tk : Tk} (ht : trV1 vNil X.G x = some tk) : TkOk K fr t (.nilCheck x) tk := by
  obtain ⟨a, ha, rfl⟩ := trV1_some ht
  intro k hk
  rw [hX.G] at ha
  rcases adrK_t hk with ⟨c, e, hk⟩ | ⟨i, o, e, hk⟩ <;> refine ⟨_, ?_, hk⟩ <;>
    exact (congrArg (· >>= fun r => pure (Plan.val r)) (okBind (trO_ok h ha))).trans (by rw [e]; rfl)
theorem trExtract_ok (hX : KTOk X K) (h : FR fr K.n t) {x : Operand} {i : Nat} {tk : Tk} (ht : trV1 (vExtract i) X.G x = some tk) : TkOk K fr t (.extract x i) tk := by
  obtain ⟨a, ha, rfl⟩ := trV1_some ht
  intro k hk
  rw [hX.G] at ha
  obtain ⟨c, e, hk⟩ := tupK_t hk
  obtain ⟨v, e1, _, hk⟩ := nthK_t hk
  refine ⟨v, ?_, hk⟩
  exact (congrArg (· >>= fun r => pure (Plan.val r)) (okBind (trO_ok h ha))).trans (by rw [e]; dsimp only; rw [e1]; rfl)
theorem trLoad_ok (hX : KTOk X K) (h : FR fr K.n t) {ty : TypeId} {x : Operand} {tk : Tk} (ht : trLoad X ty x = some tk) : TkOk K fr t (.load ty x) tk := by
  unfold trLoad at ht
  split at ht
  · rename_i i a hi ha
    cases ht
    rw [hX.G] at ha
    rw [hX.T] at hi
    intro st k hk
    have e0 : plan K.X.T K.X.prim K.X.imm K.X.G fr (.load ty x) = loadP i (getO a t) := by
      show (do loadP (← ti K.X.T ty) (← evalO K.X.G fr x)) = _
      rw [okBind hi, okBind (trO_ok h ha)]
    rw [run, e0]
    rcases adrK_t hk with ⟨c, e, hk⟩ | ⟨id, off, e, hk⟩
    · obtain ⟨v, e1, hk⟩ := takeK_t hk
      exact ⟨v, _, by rw [e]; simp only [loadP]; rw [okBind e1]; rfl, hk⟩
    · obtain ⟨o, e1, hk⟩ := objK_t hk
      obtain ⟨ty', cs, rfl, hk⟩ := cellsK_t hk
      obtain ⟨v, e2, hk⟩ := takeK_t hk
      rw [dropK_eq] at e2
      refine ⟨v, _, ?_, hk⟩
      rw [e]
      show runPlan K.X.C st (readP id _) = _
      simp only [readP, runPlan]
      rw [okBind e1, okBind (a := (v, none)) (by simp only [cellsOf]; show (do pure (← takeCells i.size i.agg (cs.drop off), none)) = _; rw [okBind e2]; rfl)]
      rfl
  · cases ht
theorem runRun {X : Cx} {fr : Fr} {st : St} {o : Op} {k : AV → Fx → Bool} (h : (match run X fr st o with | .ok (v, x) => k v x | .error _ => false) = true) : ∃ v x, run X fr st o = .ok (v, x) ∧ k v x = true := by
  split at h
  · rename_i v x e; exact ⟨v, x, e, h⟩
  · cases h
theorem opRun_ok (h : FR fr K.n t) {o : Oper} {op : Op} (ho : o.op = op) {st : St} {k : AV → Fx → Bool} (hk : opRunX o K t st k = true) : ∃ v x, run K.X fr st op = .ok (v, x) ∧ k v x = true := by
  have := runRun (X := K.X) (fr := toFr K.n t) (o := o.op) hk
  rw [ho] at this
  unfold run at this ⊢
  rw [plan_alike (h.alike (FR.toFr h.le))]
  exact this
theorem plan_store {ty : TypeId} {x y : Operand} {i : TI} {a b : AV} (hi : ti K.X.T ty = .ok i) (ha : evalO K.X.G fr x = .ok a) (hb : evalO K.X.G fr y = .ok b) (hn : ∀ k n o, a ≠ .gp k n o) : plan K.X.T K.X.prim K.X.imm K.X.G fr (.store ty x y) = storeP i a b := by
  show (do
    let i ← ti K.X.T ty
    match ← evalO K.X.G fr x with
    | .gp k m off => do gpStoreP i k m off (← evalO K.X.G fr y)
    | a => do storeP i a (← evalO K.X.G fr y)) = _
  rw [okBind hi, okBind ha]
  cases a <;> first | exact absurd rfl (hn _ _ _) | exact okBind hb
theorem trStore_ok (hX : KTOk X K) (h : FR fr K.n t) {o : Oper} {ty : TypeId} {x y : Operand} {tk : Tk} (ho : o.op = .store ty x y) (ht : trStore X o ty x y = some tk) : TkOk K fr t (.store ty x y) tk := by
  unfold trStore at ht
  split at ht
  · rename_i i a b hi ha hb
    split at ht
    · rename_i hc
      cases ht
      rw [hX.G] at ha hb
      rw [hX.T] at hi
      simp only [Bool.and_eq_true, Bool.not_eq_true'] at hc
      have hs := Nat.eq_of_beq_eq_true hc.1
      intro st k hk
      rcases gpK_t hk with ⟨_, _, _, _, hk⟩ | ⟨hng, hk⟩
      · exact opRun_ok h ho hk
      rw [run, plan_store hi (trO_ok h ha) (trO_ok h hb) hng]
      rcases adrK_t hk with ⟨c, e, hk⟩ | ⟨id, off, e, hk⟩
      · cases hk
      · obtain ⟨e1, hk⟩ := andK_t hk
        obtain ⟨ob, e2, hk⟩ := objK_t hk
        obtain ⟨ty', cs, rfl, hk⟩ := cellsK_t hk
        obtain ⟨e3, hk⟩ := andK_t hk
        obtain ⟨e4, hk⟩ := andK_t hk
        have e3 := shortK_f (notK_f e3)
        rw [setK_eq _ e3] at hk
        refine ⟨undef, _, ?_, hk⟩
        rw [e]
        simp only [storeP, one_cells e1, ones, e1, hs, List.length_cons, List.length_nil, Bool.and_true]
        show runPlan K.X.C st (.obj id _) = _
        simp only [runPlan]
        rw [okBind e2, okBind (a := (undef, some (.cells ty' (splice cs off [getO b t])))) (by
          show (match (off + 1).ble cs.length with | true => _ | false => _) = _
          rw [Nat.ble_eq_true_of_le (show off + 1 ≤ cs.length from e3)]; rfl)]
        show (do let d ← didOf st id _; pure _) = _
        rw [okBind (a := Did.wrote id _) (by
          simp only [didOf]
          cases hb : id.blt st.ro with
          | true => exact absurd (t_blt hb) (by have := Nat.le_of_ble_eq_true e4; omega)
          | false => rfl)]
        rfl
    · rename_i hc
      split at ht
      · rename_i hagg
        cases ht
        rw [hX.G] at ha hb
        rw [hX.T] at hi
        intro st k hk
        rcases gpK_t hk with ⟨_, _, _, _, hk⟩ | ⟨hng, hk⟩
        · exact opRun_ok h ho hk
        rw [run, plan_store hi (trO_ok h ha) (trO_ok h hb) hng]
        rcases adrK_t hk with ⟨c, e, hk⟩ | ⟨id, off, e, hk⟩
        · cases hk
        · obtain ⟨c, e', hk⟩ := aggK_t hk
          obtain ⟨e1, hk⟩ := andK_t hk
          obtain ⟨e1', hk⟩ := andK_t hk
          obtain ⟨ob, e2, hk⟩ := objK_t hk
          obtain ⟨ty', cs, rfl, hk⟩ := cellsK_t hk
          obtain ⟨e4, hk⟩ := andK_t hk
          have hro : didOf st id (some (.cells ty' (splice cs off c))) = .ok (.wrote id (.cells ty' (splice cs off c))) := by
            simp only [didOf]
            cases hb : id.blt st.ro with
            | true => exact absurd (t_blt hb) (by have := Nat.le_of_ble_eq_true e4; omega)
            | false => rfl
          have key : off + c.length ≤ cs.length ∧ k undef ⟨[id], .wrote id (.cells ty' (splice cs off c))⟩ = true := by
            cases hw : (Nat.beq off 0 && Nat.beq cs.length c.length) with
            | true =>
              rw [hw] at hk
              simp only [Bool.and_eq_true] at hw
              have w1 := Nat.eq_of_beq_eq_true hw.1
              have w2 := Nat.eq_of_beq_eq_true hw.2
              subst w1
              have : splice cs 0 c = c := by
                simp only [splice, List.take_zero, List.nil_append, Nat.zero_add]
                rw [List.drop_eq_nil_of_le (by omega), List.append_nil]
              rw [this]
              exact ⟨by omega, hk⟩
            | false =>
              rw [hw] at hk
              obtain ⟨w1, w2⟩ := andK_t hk
              exact ⟨Nat.le_of_ble_eq_true w1, w2⟩
          refine ⟨undef, _, ?_, key.2⟩
          rw [e, e']
          simp only [storeP, AV.cells, e1, e1', Bool.and_self]
          show runPlan K.X.C st (.obj id _) = _
          simp only [runPlan]
          rw [okBind e2, okBind (a := (undef, some (.cells ty' (splice cs off c)))) (by
            show (match (off + c.length).ble cs.length with | true => _ | false => _) = _
            rw [Nat.ble_eq_true_of_le key.1]; rfl)]
          show (do let d ← didOf st id _; pure _) = _
          rw [okBind hro]
          rfl
      · cases ht
  · cases ht
theorem trPick_ok (hX : KTOk X K) (h : FR fr K.n t) {c x y : Operand} {tk : Tk} (ht : trPick X c x y = some tk) : TkOk K fr t (.pick c x y) tk := by
  unfold trPick at ht
  split at ht
  · rename_i a b d ha hb hd
    cases ht
    rw [hX.G] at ha hb hd
    intro k hk
    obtain ⟨q, e1, hk⟩ := boolK_t hk
    refine ⟨_, ?_, hk⟩
    show ((do
      match ← asBool (← evalO K.X.G fr c) with
      | true => evalO K.X.G fr x
      | false => evalO K.X.G fr y) >>= fun r => pure (Plan.val r)) = _
    rw [okBind (trO_ok h ha), e1]
    cases q
    · show (evalO K.X.G fr y >>= fun r => pure (Plan.val r)) = _
      rw [okBind (trO_ok h hd)]; rfl
    · show (evalO K.X.G fr x >>= fun r => pure (Plan.val r)) = _
      rw [okBind (trO_ok h hb)]; rfl
  · cases ht
theorem constParts_ok {G : Nat → Option (List AV)} {fr : Fr} : ∀ {l : List (Nat × Operand)} {ps : List (Nat × AV)}, constParts l = some ps → evalParts G fr l = .ok ps
  | [], ps, h => by cases h; rfl
  | (i, x) :: l, ps, h => by
    simp only [constParts] at h
    split at h
    · split at h
      · rename_i a ha
        split at h
        · rename_i l' hl
          cases h
          simp only [evalParts, evalO, ha, constParts_ok hl]; rfl
        · cases h
      · cases h
    · cases h
theorem trBuildSlice_ok (hX : KTOk X K) {ty : TypeId} {len : Nat} {parts : Array (Nat × Operand)} {tk : Tk} (ht : trBuildSlice X ty len parts = some tk) : TkOk K fr t (.buildSlice ty len parts) tk := by
  unfold trBuildSlice at ht
  split at ht
  · rename_i ps hps
    cases ht
    rw [hX.T]
    intro k hk
    cases hr : buildSlice K.X.T ty len ps with
    | error e =>
      unfold vRes at hk
      rw [hr] at hk; cases hk
    | ok v =>
      unfold vRes at hk
      rw [hr] at hk
      refine ⟨v, ?_, hk⟩
      show ((do buildSlice K.X.T ty len (← evalParts K.X.G fr parts.toList)) >>= fun r => pure (Plan.val r)) = _
      rw [okBind (constParts_ok hps), hr]; rfl
  · cases ht
theorem trOptO_ok {G : Nat → Option (List AV)} {n : Nat} (h : FR fr n t) {x : Option Operand} {k : Option KO} (hk : trOptO G x = some k) : evalOpt G fr x = .ok (k.map fun k => getO k t) := by
  cases x with
  | none => cases hk; rfl
  | some x =>
    simp only [trOptO] at hk
    split at hk
    · rename_i a ha
      cases hk
      simp only [evalOpt]
      rw [okBind (trO_ok h ha)]; rfl
    · cases hk
theorem trSlice_ok (hX : KTOk X K) (h : FR fr K.n t) {ty : TypeId} {x : Operand} {lo hi mx : Option Operand} {tk : Tk} (ht : trSlice X ty x lo hi mx = some tk) : TkOk K fr t (.slice ty x lo hi mx) tk := by
  unfold trSlice at ht
  split at ht
  · cases ht
  · split at ht
    · rename_i i hi'
      split at ht
      · rename_i hu
        split at ht
        · rename_i lo' hi'' a hlo hhi ha
          cases ht
          rw [hX.G] at ha hlo hhi
          rw [hX.T] at hi'
          intro k hk
          obtain ⟨s, e1, hk⟩ := strK_t hk
          have e0 : plan K.X.T K.X.prim K.X.imm K.X.G fr (.slice ty x lo hi none) = ((do sliceV K.X.T ty (.str s) (lo'.map fun k => getO k t) (hi''.map fun k => getO k t) none) >>= fun r => pure (Plan.val r)) := by
            show ((do sliceV K.X.T ty (← evalO K.X.G fr x) (← evalOpt K.X.G fr lo) (← evalOpt K.X.G fr hi) (← evalOpt K.X.G fr none)) >>= fun r => pure (Plan.val r)) = _
            rw [okBind (trO_ok h ha), okBind (trOptO_ok h hlo), okBind (trOptO_ok h hhi), e1]; rfl
          have e2 : ∀ lo hi : Option AV, ∀ (m n : Nat) (lz hz : Option Int), optInt lo = .ok lz → optInt hi = .ok hz → hiOf hz s.length s.length = .ok n → loOf lz n = .ok m → sliceV K.X.T ty (.str s) lo hi none = .ok (.str ((s.take n).drop m)) := by
            intro lo hi m n lz hz q1 q2 q3 q4
            rw [sliceV, okBind q1, okBind q2, okBind (show optInt none = .ok none from rfl), okBind hi', hu]
            dsimp only
            rw [okBind q3, okBind q4]; rfl
          rw [e0]
          have up : ∀ m n, Nat.ble m n = true → upto (.ofNat m) n = .ok m := fun m n q => by simp only [upto, q]
          cases hi'' with
          | none =>
            cases lo' with
            | none =>
              refine ⟨_, ?_, hk⟩
              show (sliceV K.X.T ty (.str s) none none none >>= fun r => pure (Plan.val r)) = _
              rw [e2 none none 0 s.length none none rfl rfl rfl rfl]
              show Except.ok (Plan.val (.str ((s.take s.length).drop 0))) = _
              rw [List.take_length, List.drop_zero]
            | some lo' =>
              obtain ⟨kk, m, q1, hk⟩ := natK_t hk
              obtain ⟨q2, hk⟩ := andK_t hk
              rw [dropK_eq] at hk
              refine ⟨_, ?_, hk⟩
              show (sliceV K.X.T ty (.str s) (some (getO lo' t)) none none >>= fun r => pure (Plan.val r)) = _
              rw [e2 (some _) none m s.length (some (.ofNat m)) none (by simp only [optInt, q1]; rfl) rfl rfl (up _ _ q2)]
              show Except.ok (Plan.val (.str ((s.take s.length).drop m))) = _
              rw [List.take_length]
          | some hi'' =>
            obtain ⟨kk, n, q1, hk⟩ := natK_t hk
            obtain ⟨q2, hk⟩ := andK_t hk
            cases lo' with
            | none =>
              rw [takeB_eq] at hk
              refine ⟨_, ?_, hk⟩
              show (sliceV K.X.T ty (.str s) none (some (getO hi'' t)) none >>= fun r => pure (Plan.val r)) = _
              rw [e2 none (some _) 0 n none (some (.ofNat n)) rfl (by simp only [optInt, q1]; rfl) (up _ _ q2) rfl]
              rfl
            | some lo' =>
              obtain ⟨kk', m, q3, hk⟩ := natK_t hk
              obtain ⟨q4, hk⟩ := andK_t hk
              rw [dropK_eq, takeB_eq] at hk
              refine ⟨_, ?_, hk⟩
              show (sliceV K.X.T ty (.str s) (some (getO lo' t)) (some (getO hi'' t)) none >>= fun r => pure (Plan.val r)) = _
              rw [e2 (some _) (some _) m n (some (.ofNat m)) (some (.ofNat n)) (by simp only [optInt, q3]; rfl) (by simp only [optInt, q1]; rfl) (up _ _ q2) (up _ _ q4)]
              rfl
        · cases ht
      · cases ht
    · cases ht
theorem trLen_ok (hX : KTOk X K) (h : FR fr K.n t) {ty : TypeId} {l : List TypeId} {c : Call} {x : Operand} {tk : Tk} (hc : c.callee = .builtin .len) (h1 : c.argTypes.toList = ty :: l) (h2 : c.args.toList = [x])
    (ht : trLen X ty x = some tk) : TkOk K fr t (.call c) tk := by
  unfold trLen at ht
  split at ht
  · rename_i i hi
    rw [hX.T] at hi
    have e0 : ∀ a, trO K.X.G x = some a → plan K.X.T K.X.prim K.X.imm K.X.G fr (.call c) = lenP K.X.T ty (getO a t) := by
      intro a ha
      show (do let args ← evalL K.X.G fr c.args.toList; _) = _
      rw [okBind (a := [getO a t]) (by rw [h2]; simp only [evalL]; rw [okBind (trO_ok h ha)]; rfl), hc]
      dsimp only
      rw [h1]
      rfl
    split at ht
    · rename_i hu
      obtain ⟨a, ha, rfl⟩ := trV1_some ht
      intro k hk
      rw [hX.G] at ha
      obtain ⟨s, e1, hk⟩ := strK_t hk
      rw [lenB_eq] at hk
      refine ⟨_, ?_, hk⟩
      rw [e0 a ha, e1, lenP, okBind hi, hu]
      rfl
    · rename_i e hu
      obtain ⟨a, ha, rfl⟩ := trV1_some ht
      intro k hk
      rw [hX.G] at ha
      rcases slK_t hk with ⟨e1, hk⟩ | ⟨z, es, p, e1, hk⟩ | ⟨id, o, z, n, c, e1, hk⟩ | ⟨id, z, n, e1, hk⟩ <;> refine ⟨_, ?_, hk⟩ <;> rw [e0 a ha, e1, lenP, okBind hi, hu] <;> rfl
    · cases ht
  · cases ht
theorem trAlloc_ok (hX : KTOk X K) {ty : TypeId} {tk : Tk} (ht : trAlloc X ty = some tk) : TkOk K fr t (.alloc ty) tk := by
  unfold trAlloc at ht
  split at ht
  · rename_i i hi
    cases ht
    rw [hX.T] at hi
    intro st k hk
    refine ⟨.mp st.h 0, ⟨[], .made st.h (.cells ty i.zero)⟩, ?_, ?_⟩
    · rw [run]
      show ((do let i ← ti K.X.T ty; pure (Plan.new (.cells ty i.zero) fun k => .mp k 0)) >>= _) = _
      rw [okBind hi]; rfl
    · obtain ⟨m, ro, objs⟩ := st
      exact hk
  · cases ht
/-- Calls. -/
theorem call_ok (hK : KGood K) {g : FuncId} {vs : List AV} {st : St} {k : AV → Fx → Bool} (h : callK (K.X.C.full g) (K.X.C.isLook g) g vs K st k = true) :
    ∃ v x, runPlan K.X.C st (.call g vs) = .ok (v, x) ∧ k v x = true := by
  simp only [runPlan]
  unfold callK at h
  rw [stripsK_eq, baresK_eq, notK_eq] at h
  cases e : (bares (vs.map strip) && !K.X.C.full g) with
  | true =>
    have e2 : andK (bares (vs.map strip)) (!K.X.C.full g) = true := by
      simp only [Bool.and_eq_true] at e
      rw [e.1, e.2]; rfl
    rw [e2] at h
    obtain ⟨v, h1, h2⟩ := hK.bare _ _ _ h
    exact ⟨v, _, by dsimp only; rw [okBind h1]; rfl, h2⟩
  | false =>
    have e2 : andK (bares (vs.map strip)) (!K.X.C.full g) = false := by
      cases e3 : bares (vs.map strip) with
      | true => rw [e3] at e; exact e
      | false => rfl
    rw [e2] at h
    cases e' : K.X.C.isLook g with
    | true =>
      rw [e'] at h
      obtain ⟨v, h1, h2⟩ := hK.look _ _ _ _ h
      exact ⟨v, _, by dsimp only; rw [okBind h1]; rfl, h2⟩
    | false =>
      rw [e'] at h
      obtain ⟨v, s, h1, h2⟩ := hK.wide _ _ _ _ h
      exact ⟨v, _, by dsimp only; rw [okBind h1]; rfl, h2⟩
theorem trCall_ok (hX : KTOk X K) (hK : KGood K) (h : FR fr K.n t) {o : Oper} {c : Call} (ho : o.op = .call c) {tk : Tk} (ht : trCall X o c = some tk) : TkOk K fr t (.call c) tk := by
  unfold trCall at ht
  split at ht
  · rename_i b hb
    split at ht
    · rename_i ty l x h1 h2
      exact trLen_ok hX h hb h1 h2 ht
    · cases ht
  · rename_i f hc
    have e0 : ∀ a as, trO K.X.G f = some a → trOs K.X.G c.args.toList = some as → plan K.X.T K.X.prim K.X.imm K.X.G fr (.call c) = (match getO a t with
        | .fn (.func g) first cap => match K.X.prim g with
          | some q => primP q (first ++ getOs as t ++ cap)
          | none => pure (.call g (first ++ getOs as t ++ cap))
        | .yld k => pure (.yield k (getOs as t))
        | _ => .error "call: what?") := by
      intro a as ha has
      show (do let args ← evalL K.X.G fr c.args.toList; _) = _
      rw [okBind (trOs_ok h has), hc]
      dsimp only
      rw [okBind (trO_ok h ha)]
      rfl
    split at ht
    · rename_i a as ha has
      rw [hX.G] at ha has
      split at ht
      · rename_i v
        split at ht
        · split at ht
          · rename_i g
            split at ht
            · split at ht
              · rename_i hp
                cases ht
                rw [hX.prim] at hp
                intro st k hk
                rw [run, e0 _ _ ha has]
                simp only [getO, hp, List.nil_append, List.append_nil]
                simp only [opCallX, hX.full, hX.isLook] at hk
                exact call_ok hK hk
              · cases ht
            · cases ht
          · cases ht
        · cases ht
      · rename_i p
        cases ht
        intro st k hk
        unfold opDynX at hk
        split at hk
        · rename_i g first cap e
          split at hk
          · rename_i q hq
            exact opRun_ok h ho hk
          · rename_i hq
            rw [run, e0 _ _ ha has, e]
            dsimp only
            rw [hq]
            exact call_ok hK hk
        · cases hk
    · cases ht
  · cases ht
theorem trBase_ok (hX : KTOk X K) (hK : KGood K) (h : FR fr K.n t) {o : Oper} {tk : Tk} (ht : trBase X o = some tk) : TkOk K fr t o.op tk := by
  unfold trBase at ht
  split at ht
  · rename_i x ho; exact trMv_ok hX h (.inl ho) ht
  · rename_i x ho; exact trMv_ok hX h (.inr ho) ht
  · rename_i ho; rw [ho]; exact trBin_ok hX h ht
  · rename_i ho; rw [ho]; exact trNot_ok hX h ht
  · rename_i ho; rw [ho]; exact trPick_ok hX h ht
  · rename_i ho; rw [ho]; exact trBuildSlice_ok hX ht
  · rename_i ho; rw [ho]; exact trSlice_ok hX h ht
  · rename_i ho; rw [ho]; exact trConv_ok hX h ht
  · rename_i ho; rw [ho]; exact trIface_ok hX h ht
  · rename_i ho; rw [ho]; exact trFieldAddr_ok hX h ht
  · rename_i ho; rw [ho]; exact trField_ok hX h ht
  · rename_i ho; rw [ho]; exact trIndexAddr_ok hX h ht
  · rename_i ho; rw [ho]; exact trIndex_ok hX h ht
  · rename_i ho; rw [ho]; exact trNil_ok hX h ht
  · rename_i ho; rw [ho]; exact trExtract_ok hX h ht
  · rename_i ho; rw [ho]; exact trLoad_ok hX h ht
  · rename_i ho; rw [ho]; exact trStore_ok hX h ho ht
  · rename_i ho; rw [ho]; exact trAlloc_ok hX ht
  · rename_i c ho; rw [ho]; exact trCall_ok hX hK h ho ht
  · cases ht
end Go.VM
/- What the fast machine runs, the machine runs. -/
namespace Go.VM
variable {X : KT} {K : KX} {fr : Fr} {t : Frm}
theorem wanted_some {all : List Oper} {fr : Fr} {j : Nat} {w : Bool} {d : Tmp} (h : (all[j]?).bind (·.dst) = some d) : wanted all fr (some (j, w)) = (match fr.get d with | .bool b => b == w | _ => false) := by
  unfold wanted
  dsimp only
  rw [h]
  rfl
/-- An operation, done fast: what it tells, and what it did. -/
def OpX (K : KX) (fr : Fr) (t : Frm) (all : List Oper) (o : Oper) (f : KFx) : Prop :=
  ∀ st k, f K t st k = true → ∃ v x, oper K.X all fr st o = .ok (v, x) ∧ k v x = true
def OpF (K : KX) (fr : Fr) (t : Frm) (all : List Oper) (o : Oper) (f : KF) : Prop :=
  ∀ st k, f K t st k = true → ∃ v x, oper K.X all fr st o = .ok (v, x) ∧ k (putD (trD K.n o.dst) t v) (x.did.app st) = true
theorem oper_run {all : List Oper} {o : Oper} {st : St} (h : wanted all fr o.guard = true) : oper K.X all fr st o = run K.X fr st o.op := by
  unfold oper; rw [h]; rfl
theorem oper_no {all : List Oper} {o : Oper} {st : St} (h : wanted all fr o.guard = false) : oper K.X all fr st o = .ok (undef, ⟨[], .kept⟩) := by
  unfold oper; rw [h]
theorem opVal_ok {all : List Oper} {o : Oper} {f : VF} (hg : wanted all fr o.guard = true) (h : PV K fr t o.op f) : OpF K fr t all o (opVal (trD K.n o.dst) f) := by
  intro st k hk
  obtain ⟨v, h1, h2⟩ := h _ hk
  exact ⟨v, ⟨[], .kept⟩, by rw [oper_run hg, run, okBind h1]; rfl, h2⟩
theorem opPut_ok {all : List Oper} {o : Oper} {f : KFx} (hg : wanted all fr o.guard = true) (h : PX K fr t o.op f) : OpF K fr t all o (opPut (trD K.n o.dst) f) := by
  intro st k hk
  obtain ⟨v, x, h1, h2⟩ := h _ _ hk
  rw [appK_eq] at h2
  exact ⟨v, x, by rw [oper_run hg, h1], h2⟩
theorem opMv_ok (hX : KTOk X K) (h : FR fr K.n t) {all : List Oper} {o : Oper} {x : KO} (hx : trMove X.G o = some x) : OpF K fr t all o (opMv x (trD K.n o.dst)) := by
  unfold trMove at hx
  split at hx
  · cases hx
  · rename_i hg
    have hw : wanted all fr o.guard = true := by rw [hg]; rfl
    rw [hX.G] at hx
    split at hx
    · rename_i y ho
      intro st k hk
      refine ⟨getO x t, ⟨[], .kept⟩, ?_, hk⟩
      have e0 : plan K.X.T K.X.prim K.X.imm K.X.G fr o.op = .ok (.val (getO x t)) := by rw [ho]; exact okBind (trO_ok h hx)
      rw [oper_run hw, run, okBind e0]; rfl
    · rename_i y ho
      intro st k hk
      refine ⟨getO x t, ⟨[], .kept⟩, ?_, hk⟩
      have e0 : plan K.X.T K.X.prim K.X.imm K.X.G fr o.op = .ok (.val (getO x t)) := by rw [ho]; exact okBind (trO_ok h hx)
      rw [oper_run hw, run, okBind e0]; rfl
    · cases hx
theorem opX_ok {all : List Oper} {o : Oper} {f : KFx} (hg : wanted all fr o.guard = true) (h : PX K fr t o.op f) : OpX K fr t all o f := by
  intro st k hk
  obtain ⟨v, x, h1, h2⟩ := h _ _ hk
  exact ⟨v, x, by rw [oper_run hg, h1], h2⟩
theorem getP_get (h : FR fr K.n t) {d : Nat} (hd : d < K.n) : getP (pl d) t = fr.get d := by
  rw [h.get d]
  unfold kget
  rw [blt_t (show d < 1000 by have := h.le; omega)]
theorem opWhen_ok (h : FR fr K.n t) {all : List Oper} {o : Oper} {f : KF} {j : Nat} {w : Bool} {d : Tmp} (ho : o.guard = some (j, w)) (hd : (all[j]?).bind (·.dst) = some d) (hn : d < K.n)
    (hf : wanted all fr o.guard = true → OpF K fr t all o f) : OpF K fr t all o (opWhen (pl d) w (trD K.n o.dst) f) := by
  intro st k hk
  unfold opWhen at hk
  rw [getP_get h hn] at hk
  have hw := wanted_some (fr := fr) (w := w) hd
  split at hk
  · rename_i b hb
    rw [hb] at hw
    dsimp only at hw
    cases e : b == w with
    | true =>
      rw [e] at hk hw
      exact hf (by rw [ho, hw]) st k hk
    | false =>
      rw [e] at hk hw
      exact ⟨undef, ⟨[], .kept⟩, oper_no (by rw [ho, hw]), hk⟩
  · rename_i hb
    refine ⟨undef, ⟨[], .kept⟩, oper_no ?_, hk⟩
    rw [ho, hw]
    split
    · rename_i b e; exact absurd e (hb b)
    · rfl
theorem opWhenX_ok (h : FR fr K.n t) {all : List Oper} {o : Oper} {f : KFx} {j : Nat} {w : Bool} {d : Tmp} (ho : o.guard = some (j, w)) (hd : (all[j]?).bind (·.dst) = some d) (hn : d < K.n)
    (hf : wanted all fr o.guard = true → OpX K fr t all o f) : OpX K fr t all o (opWhenX (pl d) w f) := by
  intro st k hk
  unfold opWhenX at hk
  rw [getP_get h hn] at hk
  have hw := wanted_some (fr := fr) (w := w) hd
  split at hk
  · rename_i b hb
    rw [hb] at hw
    dsimp only at hw
    cases e : b == w with
    | true =>
      rw [e] at hk hw
      exact hf (by rw [ho, hw]) st k hk
    | false =>
      rw [e] at hk hw
      exact ⟨undef, ⟨[], .kept⟩, oper_no (by rw [ho, hw]), hk⟩
  · rename_i hb
    refine ⟨undef, ⟨[], .kept⟩, oper_no ?_, hk⟩
    rw [ho, hw]
    split
    · rename_i b e; exact absurd e (hb b)
    · rfl
theorem opGen_ok (h : FR fr K.n t) {all : List Oper} {o : Oper} : OpF K fr t all o (opGen all o (trD K.n o.dst)) := by
  intro st k hk
  unfold opGen at hk
  rw [oper_alike ((FR.toFr h.le).alike h)] at hk
  split at hk
  · rename_i v x e
    rw [appK_eq] at hk
    exact ⟨v, x, e, hk⟩
  · cases hk
theorem opGenX_ok (h : FR fr K.n t) {all : List Oper} {o : Oper} : OpX K fr t all o (opGenX all o) := by
  intro st k hk
  unfold opGenX at hk
  rw [oper_alike ((FR.toFr h.le).alike h)] at hk
  split at hk
  · rename_i v x e
    exact ⟨v, x, e, hk⟩
  · cases hk
/-- An operation of the fast machine stands for one of the machine. -/
inductive KOpOk (K : KX) (fr : Fr) (t : Frm) (all : List Oper) (o : Oper) (j : Nat) (m : List Nat) (b : Bool) : KOp → Prop
  | plain (f : KF) : OpF K fr t all o f → m = [] → b = false → KOpOk K fr t all o j m b (.plain f)
  | chk (f : KFx) : OpX K fr t all o f → KOpOk K fr t all o j m b (.chk j m b (trD K.n o.dst) f)
theorem trPlain_ok (hX : KTOk X K) (hK : KGood K) (h : FR fr K.n t) {all : List Oper} {o : Oper} {j : Nat} : KOpOk K fr t all o j [] false (trPlain X all o) := by
  have hn := hX.n
  unfold trPlain
  split
  · rename_i x hx
    rw [hn]; exact .plain _ (opMv_ok hX h hx) rfl rfl
  split
  · rw [hn]; exact .plain _ (opGen_ok h) rfl rfl
  · rename_i k hk
    have hb := trBase_ok hX hK h hk
    split
    · rename_i hg
      have hw : wanted all fr o.guard = true := by rw [hg]; rfl
      split
      · rw [hn]; exact .plain _ (opVal_ok hw hb) rfl rfl
      · rw [hn]; exact .plain _ (opPut_ok hw hb) rfl rfl
    · rename_i i w hg
      split
      · rename_i d hd
        split
        · rename_i hl
          rw [hn] at hl
          split
          · rw [hn]; exact .plain _ (opWhen_ok h hg hd (t_blt hl) fun hw => opVal_ok hw hb) rfl rfl
          · rw [hn]; exact .plain _ (opWhen_ok h hg hd (t_blt hl) fun hw => opPut_ok hw hb) rfl rfl
        · rw [hn]; exact .plain _ (opGen_ok h) rfl rfl
      · rw [hn]; exact .plain _ (opGen_ok h) rfl rfl
theorem trChk_ok (hX : KTOk X K) (hK : KGood K) (h : FR fr K.n t) {all : List Oper} {o : Oper} {j : Nat} {m : List Nat} {b : Bool} : KOpOk K fr t all o j m b (trChk X all o j m b) := by
  have hn := hX.n
  unfold trChk
  split
  · rw [hn]; exact .chk _ (opGenX_ok h)
  · rename_i k hk
    have hb := trBase_ok hX hK h hk
    split
    · rename_i hg
      have hw : wanted all fr o.guard = true := by rw [hg]; rfl
      split
      · rw [hn]; exact .chk _ (opX_ok hw (PV.x hb))
      · rw [hn]; exact .chk _ (opX_ok hw hb)
    · rename_i i w hg
      split
      · rename_i d hd
        split
        · rename_i hl
          rw [hn] at hl
          split
          · rw [hn]; exact .chk _ (opWhenX_ok h hg hd (t_blt hl) fun hw => opX_ok hw (PV.x hb))
          · rw [hn]; exact .chk _ (opWhenX_ok h hg hd (t_blt hl) fun hw => opX_ok hw hb)
        · rw [hn]; exact .chk _ (opGenX_ok h)
      · rw [hn]; exact .chk _ (opGenX_ok h)
theorem trOp_ok (hX : KTOk X K) (hK : KGood K) (h : FR fr K.n t) {all : List Oper} {draw : Bool} {j : Nat} {o : Oper} :
    (draw = false ∨ still o.op = true) ∧ KOpOk K fr t all o j [] false (trOp X all draw j o) ∨ draw = true ∧ still o.op = false ∧ KOpOk K fr t all o j (mustOf all j) (keepOf all j) (trOp X all draw j o) := by
  unfold trOp
  split
  · exact .inl ⟨.inl rfl, trPlain_ok hX hK h⟩
  · split
    · rename_i e
      exact .inl ⟨.inr e, trPlain_ok hX hK h⟩
    · rename_i e
      refine .inr ⟨rfl, e, ?_⟩
      split
      · rename_i hm
        split
        · rename_i hb
          rw [hm, hb]; exact trPlain_ok hX hK h
        · rename_i hb
          rw [hm, hb]; exact trChk_ok hX hK h
      · rename_i hm
        rw [hm]; exact trChk_ok hX hK h
/- The orders. -/
theorem val_quiet {st : St} {v : AV} {y : AV} {x : Fx} {C : Caller} (h : runPlan C st (.val v) = .ok (y, x)) : quiet x = true := by
  simp only [runPlan, Except.ok.injEq, Prod.mk.injEq] at h
  obtain ⟨_, rfl⟩ := h; rfl
theorem still_quiet {Y : Cx} {all : List Oper} {st : St} {o : Oper} {v : AV} {x : Fx} (hs : still o.op = true) (h : oper Y all fr st o = .ok (v, x)) : quiet x = true := by
  unfold oper at h
  split at h
  · obtain ⟨p, h1, h2⟩ := bind_ok.1 h
    have hp : ∃ v, p = .val v := by
      cases ho : o.op <;> rw [ho] at h1 hs <;> first | (cases hs; done) | skip
      all_goals simp only [plan] at h1
      all_goals first
        | (obtain ⟨r, _, h1⟩ := bind_ok.1 h1; cases h1; exact ⟨_, rfl⟩)
        | (split at h1
           · cases h1
           · obtain ⟨r, _, h1⟩ := bind_ok.1 h1; cases h1; exact ⟨_, rfl⟩)
    obtain ⟨v, rfl⟩ := hp
    exact val_quiet h2
  · cases h; rfl
theorem load_kept {Y : Cx} {all : List Oper} {st : St} {o : Oper} {v : AV} {x : Fx} (hs : isLoad o.op = true) (h : oper Y all fr st o = .ok (v, x)) : x.did = .kept := by
  unfold oper at h
  split at h
  · obtain ⟨p, h1, h2⟩ := bind_ok.1 h
    cases ho : o.op <;> rw [ho] at h1 hs <;> first | (cases hs; done) | skip
    simp only [plan, bind_ok] at h1
    obtain ⟨_, _, _, _, h1⟩ := h1
    unfold loadP at h1
    split at h1
    · obtain ⟨r, _, h1⟩ := bind_ok.1 h1
      cases h1
      simp only [runPlan, Except.ok.injEq, Prod.mk.injEq] at h2
      obtain ⟨_, rfl⟩ := h2; rfl
    · cases h1
      simp only [readP, runPlan, bind_ok, pure_ok] at h2
      obtain ⟨ob, _, ⟨v', o'⟩, h3, d, h4, h5⟩ := h2
      obtain ⟨r, _, h3⟩ := h3
      cases h3
      simp only [didOf, Except.ok.injEq] at h4
      subst h4
      cases h5; rfl
    · cases h1
      simp only [readP, runPlan, bind_ok, pure_ok] at h2
      obtain ⟨ob, _, ⟨v', o'⟩, h3, d, h4, h5⟩ := h2
      obtain ⟨r, _, h3⟩ := h3
      cases h3
      simp only [didOf, Except.ok.injEq] at h4
      subst h4
      cases h5; rfl
    · cases h1
  · cases h; rfl
theorem orderly_of {all : List Oper} {j : Nat} {x : Fx} : ∀ {l : List (Nat × Fx)}, (∀ i y, (i, y) ∈ l → apart y x = true ∨ behind all (j + 1) j i = true) → orderly all j x l = true
  | [], _ => rfl
  | (i, y) :: l, h => by
    simp only [orderly, Bool.and_eq_true, Bool.or_eq_true]
    exact ⟨h i y (by simp), orderly_of fun i y hm => h i y (by simp [hm])⟩
theorem okSeen_mem {must : List Nat} {x : Fx} : ∀ {l : List (Nat × Fx)} {i : Nat} {y : Fx}, okSeen must x l = true → (i, y) ∈ l → i ∈ must → apart y x = true
  | [], _, _, _, h, _ => by cases h
  | (i', y') :: l, i, y, h, hm, hi => by
    simp only [okSeen, Bool.and_eq_true, Bool.or_eq_true] at h
    rcases List.mem_cons.1 hm with e | hm
    · cases e
      rcases h.1 with h | h
      · have : must.any (Nat.beq i') = true := List.any_eq_true.2 ⟨_, hi, Nat.beq_refl _⟩
        rw [this] at h; cases h
      · exact h
    · exact okSeen_mem h.2 hm hi
structure SeenOk (all : List Oper) (j : Nat) (seen seen' : List (Nat × Fx)) : Prop where
  lt : ∀ i y, (i, y) ∈ seen → i < j
  op : ∀ i y, (i, y) ∈ seen → ∃ o, all[i]? = some o ∧ still o.op = false ∧ (isLoad o.op = true → y.did = .kept)
  keep : ∀ i y, (i, y) ∈ seen → keepOf all i = true → (i, y) ∈ seen'
theorem SeenOk.next {all : List Oper} {j : Nat} {seen seen' : List (Nat × Fx)} (h : SeenOk all j seen seen') : SeenOk all (j + 1) seen seen' :=
  ⟨fun i y m => Nat.lt_succ_of_lt (h.lt i y m), h.op, h.keep⟩
theorem SeenOk.add {all : List Oper} {j : Nat} {seen seen' : List (Nat × Fx)} (h : SeenOk all j seen seen') {o : Oper} {x : Fx} (ho : all[j]? = some o) (hs : still o.op = false) (hl : isLoad o.op = true → x.did = .kept) :
    SeenOk all (j + 1) ((j, x) :: seen) (match keepOf all j with | true => (j, x) :: seen' | false => seen') := by
  refine ⟨fun i y m => ?_, fun i y m => ?_, fun i y m k => ?_⟩ <;> rcases List.mem_cons.1 m with e | m
  · cases e; exact Nat.lt_succ_self _
  · exact Nat.lt_succ_of_lt (h.lt i y m)
  · cases e; exact ⟨o, ho, hs, hl⟩
  · exact h.op i y m
  · cases e; rw [k]; exact List.mem_cons_self
  · split
    · exact List.mem_cons_of_mem _ (h.keep i y m k)
    · exact h.keep i y m k
/-- Those behind which an operation stands, or that it may pass. -/
theorem SeenOk.orderly {all : List Oper} {j : Nat} {seen seen' : List (Nat × Fx)} (h : SeenOk all j seen seen') {o : Oper} {x : Fx} (ho : all[j]? = some o) (hs : still o.op = false) (hl : isLoad o.op = true → x.did = .kept)
    (hm : okSeen (mustOf all j) x seen' = true) : orderly all j x seen = true := by
  refine orderly_of fun i y hy => ?_
  have hlt := h.lt i y hy
  obtain ⟨o', ho', hs', hl'⟩ := h.op i y hy
  have hj : j < all.length := by
    have := List.getElem?_eq_some_iff.1 ho
    exact this.1
  cases hf : free all i j with
  | false =>
    have hk : keepOf all i = true := by
      unfold keepOf
      refine List.any_eq_true.2 ⟨j, by simpa using hj, ?_⟩
      rw [hf, blt_t hlt]; rfl
    exact .inl (okSeen_mem hm (h.keep i y hy hk) (by
      unfold mustOf
      refine List.mem_filter.2 ⟨by simpa using hlt, ?_⟩
      rw [hf]; rfl))
  | true =>
    unfold free at hf
    rw [ho', ho] at hf
    simp only [Bool.or_eq_true, Bool.and_eq_true, hs, hs'] at hf
    rcases hf with e | e | e | e
    · cases e
    · cases e
    · have e1 := hl' e.1
      have e2 := hl e.2
      obtain ⟨r1, d1⟩ := x
      obtain ⟨r2, d2⟩ := y
      dsimp only at e1 e2
      subst e1; subst e2
      exact .inl rfl
    · exact .inr e
theorem opsK_ok (hX : KTOk X K) (hK : KGood K) {all : List Oper} {draw : Bool} : ∀ (l : List Oper) (j : Nat) (seen seen' : List (Nat × Fx)) (fr : Fr) (t : Frm) (st : St) (k : KN), all.drop j = l → (draw = true → SeenOk all j seen seen') → FR fr K.n t →
    opsK (trOps X all draw j l) K seen' t st k = true → ∃ fr' st' t', opsFrom K.X all draw j seen l fr st = .ok (fr', st') ∧ FR fr' K.n t' ∧ k t' st' = true
  | [], _, _, _, fr, t, st, k, _, _, h, hk => ⟨fr, st, t, rfl, h, hk⟩
  | o :: l, j, seen, seen', fr, t, st, k, hd, hs, h, hk => by
    have hj : all[j]? = some o := by
      have := List.getElem?_drop (xs := all) (i := j) (j := 0)
      rw [hd] at this
      simpa using this.symm
    have hd' : all.drop (j + 1) = l := by rw [← List.drop_drop, hd]; rfl
    have step : ∀ v x, oper K.X all fr st o = .ok (v, x) → ∀ seen1, (draw = true → SeenOk all (j + 1) seen1 (if draw && !quiet x then seen1 else seen1)) → True := fun _ _ _ _ _ => trivial
    clear step
    simp only [trOps] at hk
    rcases trOp_ok (all := all) (draw := draw) (j := j) (o := o) hX hK h with ⟨hq, hop⟩ | ⟨hdr, hst, hop⟩
    · generalize hko : trOp X all draw j o = ko at hop hk
      cases hop with
      | chk f hf =>
        obtain ⟨v, x, h1, h2⟩ := hf st _ hk
        have hqx : (draw && !quiet x) = false := by
          rcases hq with rfl | hq
          · rfl
          · rw [still_quiet hq h1]; cases draw <;> rfl
        have h3 : opsK (trOps X all draw (j + 1) l) K seen' (putD (trD K.n o.dst) t v) (x.did.app st) k = true := by
          rw [appK_eq] at h2
          split at h2
          · exact h2
          · split at h2
            · exact h2
            · cases h2
        obtain ⟨fr', st', t', e1, e2, e3⟩ := opsK_ok hX hK l (j + 1) seen seen' _ _ _ k hd' (fun e => (hs e).next) (h.put o.dst v) h3
        exact ⟨fr', st', t', by rw [opsFrom, okBind h1]; dsimp only; rw [hqx]; exact e1, e2, e3⟩
      | plain f hf _ _ =>
        obtain ⟨v, x, h1, h2⟩ := hf st _ hk
        have hqx : (draw && !quiet x) = false := by
          rcases hq with rfl | hq
          · rfl
          · rw [still_quiet hq h1]; cases draw <;> rfl
        obtain ⟨fr', st', t', e1, e2, e3⟩ := opsK_ok hX hK l (j + 1) seen seen' _ _ _ k hd' (fun e => (hs e).next) (h.put o.dst v) h2
        exact ⟨fr', st', t', by rw [opsFrom, okBind h1]; dsimp only; rw [hqx]; exact e1, e2, e3⟩
    · subst hdr
      have hs := hs rfl
      generalize hko : trOp X all true j o = ko at hop hk
      generalize hm : mustOf all j = m at hop
      generalize hb : keepOf all j = b at hop
      cases hop with
      | plain f hf em eb =>
        subst em; subst eb
        obtain ⟨v, x, h1, h2⟩ := hf st _ hk
        have hl : isLoad o.op = true → x.did = .kept := fun e => load_kept e h1
        cases hqx : quiet x with
        | true =>
          obtain ⟨fr', st', t', e1, e2, e3⟩ := opsK_ok hX hK l (j + 1) seen seen' _ _ _ k hd' (fun _ => hs.next) (h.put o.dst v) h2
          exact ⟨fr', st', t', by rw [opsFrom, okBind h1]; dsimp only; rw [hqx]; exact e1, e2, e3⟩
        | false =>
          have hor := hs.orderly hj hst hl (by
            rw [hm]
            have : ∀ l : List (Nat × Fx), okSeen [] x l = true := by
              intro l; induction l with
              | nil => rfl
              | cons a l ih => obtain ⟨i, y⟩ := a; simp only [okSeen, ih]; rfl
            exact this _)
          have hs' := hs.add hj hst hl
          rw [hb] at hs'
          obtain ⟨fr', st', t', e1, e2, e3⟩ := opsK_ok hX hK l (j + 1) ((j, x) :: seen) seen' _ _ _ k hd' (fun _ => hs') (h.put o.dst v) h2
          exact ⟨fr', st', t', by rw [opsFrom, okBind h1]; dsimp only; rw [hqx]; show (match orderly all j x seen with | true => _ | false => _) = _; rw [hor]; exact e1, e2, e3⟩
      | chk f hf =>
        obtain ⟨v, x, h1, h2⟩ := hf st _ hk
        have hl : isLoad o.op = true → x.did = .kept := fun e => load_kept e h1
        rw [appK_eq] at h2
        split at h2
        · rename_i hqx
          obtain ⟨fr', st', t', e1, e2, e3⟩ := opsK_ok hX hK l (j + 1) seen seen' _ _ _ k hd' (fun _ => hs.next) (h.put o.dst v) h2
          exact ⟨fr', st', t', by rw [opsFrom, okBind h1]; dsimp only; rw [hqx]; exact e1, e2, e3⟩
        · rename_i hqx
          split at h2
          · rename_i hok
            have hor := hs.orderly hj hst hl (by rw [hm]; exact hok)
            have hs' := hs.add hj hst hl
            rw [hb] at hs'
            obtain ⟨fr', st', t', e1, e2, e3⟩ := opsK_ok hX hK l (j + 1) ((j, x) :: seen) _ _ _ _ k hd' (fun _ => hs') (h.put o.dst v) h2
            exact ⟨fr', st', t', by rw [opsFrom, okBind h1]; dsimp only; rw [hqx]; show (match orderly all j x seen with | true => _ | false => _) = _; rw [hor]; exact e1, e2, e3⟩
          · cases h2
end Go.VM
/- Code, bodies and calls of the fast machine. -/
namespace Go.VM
variable {X : KT} {K : KX}
def Cont (kn : KN) (ke : Nat → KN) (kr : KN) (t : Frm) (st : St) : Ex → Bool
  | .normal => kn t st
  | .exit i => ke i t st
  | .ret => kr t st
theorem iterK_ok {b : Frm → St → KN → (Nat → KN) → KN → Bool} {body : Fr → St → Res (Ex × Fr × St)} {n : Nat}
    (hb : ∀ (t : Frm) (st : St) (kn : KN) (ke : Nat → KN) (kr : KN) (fr : Fr), FR fr n t → b t st kn ke kr = true → ∃ ex fr' st' t', body fr st = .ok (ex, fr', st') ∧ FR fr' n t' ∧ Cont kn ke kr t' st' ex = true) :
    ∀ (m : Nat) (t : Frm) (st : St) (kn : KN) (ke : Nat → KN) (kr : KN) (fr : Fr), FR fr n t → iterK m b t st ke kr = true → ∃ ex fr' st' t', iter body m fr st = .ok (ex, fr', st') ∧ FR fr' n t' ∧ Cont kn ke kr t' st' ex = true
  | 0, _, _, _, _, _, _, _, h => by cases h
  | m + 1, t, st, kn, ke, kr, fr, h, hk => by
    obtain ⟨ex, fr1, st1, t1, h1, h2, h3⟩ := hb t st (fun t st => iterK m b t st ke kr) ke kr fr h hk
    cases ex with
    | normal =>
      obtain ⟨ex, fr2, st2, t2, e1, e2, e3⟩ := iterK_ok hb m t1 st1 kn ke kr fr1 h2 h3
      exact ⟨ex, fr2, st2, t2, by rw [iter, okBind h1]; exact e1, e2, e3⟩
    | exit i => exact ⟨.exit i, fr1, st1, t1, by rw [iter, okBind h1]; rfl, h2, h3⟩
    | ret => exact ⟨.ret, fr1, st1, t1, by rw [iter, okBind h1]; rfl, h2, h3⟩
theorem execK_ok (hX : KTOk X K) (hK : KGood K) (n : Nat) : ∀ (c : Code) (t : Frm) (st : St) (kn : KN) (ke : Nat → KN) (kr : KN) (fr : Fr), FR fr K.n t → execK (trC X c) K n t st kn ke kr = true →
    ∃ ex fr' st' t', exec K.X n c fr st = .ok (ex, fr', st') ∧ FR fr' K.n t' ∧ Cont kn ke kr t' st' ex = true
  | .skip, t, st, kn, ke, kr, fr, h, hk => ⟨.normal, fr, st, t, rfl, h, hk⟩
  | .label _, t, st, kn, ke, kr, fr, h, hk => ⟨.normal, fr, st, t, rfl, h, hk⟩
  | .exit i, t, st, kn, ke, kr, fr, h, hk => ⟨.exit i, fr, st, t, rfl, h, hk⟩
  | .ret, t, st, kn, ke, kr, fr, h, hk => ⟨.ret, fr, st, t, rfl, h, hk⟩
  | .scope c, t, st, kn, ke, kr, fr, h, hk => execK_ok hX hK n c t st kn ke kr fr h hk
  | .goto _, _, _, _, _, _, _, _, hk => by cases hk
  | .refuse _, _, _, _, _, _, _, _, hk => by cases hk
  | .rangeFunc .., _, _, _, _, _, _, _, hk => by cases hk
  | .region id ops draw, t, st, kn, ke, kr, fr, h, hk => by
    simp only [trC] at hk
    split at hk
    · rename_i hd
      rw [hX.imm] at hd
      obtain ⟨fr', st', t', e1, e2, e3⟩ := opsK_ok hX hK (all := ops.toList) (draw := draw) ops.toList 0 [] [] fr t st kn rfl
        (fun _ => ⟨fun _ _ m => (by cases m), fun _ _ m => (by cases m), fun _ _ m => (by cases m)⟩) h hk
      refine ⟨.normal, fr', st', t', ?_, e2, e3⟩
      rw [exec, hd]
      dsimp only
      rw [okBind e1]; rfl
    · cases hk
  | .seq a b, t, st, kn, ke, kr, fr, h, hk => by
    obtain ⟨ex, fr1, st1, t1, h1, h2, h3⟩ := execK_ok hX hK n a t st (fun t st => execK (trC X b) K n t st kn ke kr) ke kr fr h hk
    cases ex with
    | normal =>
      obtain ⟨ex, fr2, st2, t2, e1, e2, e3⟩ := execK_ok hX hK n b t1 st1 kn ke kr fr1 h2 h3
      exact ⟨ex, fr2, st2, t2, by rw [exec, okBind h1]; exact e1, e2, e3⟩
    | exit i => exact ⟨.exit i, fr1, st1, t1, by rw [exec, okBind h1]; rfl, h2, h3⟩
    | ret => exact ⟨.ret, fr1, st1, t1, by rw [exec, okBind h1]; rfl, h2, h3⟩
  | .cond c a b, t, st, kn, ke, kr, fr, h, hk => by
    simp only [trC] at hk
    split at hk
    · rename_i x hx
      rw [hX.G] at hx
      obtain ⟨v, e, hk⟩ := boolK_t (k := fun b' => Bool.rec (motive := fun _ => Bool) (execK (trC X b) K n t st kn ke kr) (execK (trC X a) K n t st kn ke kr) b') hk
      have e0 : (do asBool (← evalO K.X.G fr c)) = .ok v := by rw [okBind (trO_ok h hx), e]; rfl
      cases v with
      | true =>
        obtain ⟨ex, fr2, st2, t2, e1, e2, e3⟩ := execK_ok hX hK n a t st kn ke kr fr h hk
        exact ⟨ex, fr2, st2, t2, by rw [exec, okBind (trO_ok h hx), e]; exact e1, e2, e3⟩
      | false =>
        obtain ⟨ex, fr2, st2, t2, e1, e2, e3⟩ := execK_ok hX hK n b t st kn ke kr fr h hk
        exact ⟨ex, fr2, st2, t2, by rw [exec, okBind (trO_ok h hx), e]; exact e1, e2, e3⟩
    · cases hk
  | .block id c, t, st, kn, ke, kr, fr, h, hk => by
    obtain ⟨ex, fr1, st1, t1, h1, h2, h3⟩ := execK_ok hX hK n c t st kn (fun i t st => Bool.rec (motive := fun _ => Bool) (ke i t st) (kn t st) (Nat.beq i id)) kr fr h hk
    cases ex with
    | normal => exact ⟨.normal, fr1, st1, t1, by rw [exec, okBind h1]; rfl, h2, h3⟩
    | ret => exact ⟨.ret, fr1, st1, t1, by rw [exec, okBind h1]; rfl, h2, h3⟩
    | exit i =>
      have h3 : Bool.rec (motive := fun _ => Bool) (ke i t1 st1) (kn t1 st1) (Nat.beq i id) = true := h3
      cases hi : i.beq id with
      | true =>
        rw [hi] at h3
        exact ⟨.normal, fr1, st1, t1, by rw [exec, okBind h1]; dsimp only; rw [hi]; rfl, h2, h3⟩
      | false =>
        rw [hi] at h3
        exact ⟨.exit i, fr1, st1, t1, by rw [exec, okBind h1]; dsimp only; rw [hi]; rfl, h2, h3⟩
  | .loop c, t, st, kn, ke, kr, fr, h, hk => by
    obtain ⟨ex, fr2, st2, t2, e1, e2, e3⟩ := iterK_ok (body := exec K.X n c) (fun t st kn ke kr fr h hk => execK_ok hX hK n c t st kn ke kr fr h hk) n t st kn ke kr fr h hk
    exact ⟨ex, fr2, st2, t2, by rw [exec]; exact e1, e2, e3⟩
theorem resK_ok {T : TT} {n : Nat} {fr : Fr} {t : Frm} (h : FR fr n t) {st : St} {r : ResultVar} {k : AV → Bool} (hk : resK T n t st (trR r) k = true) : ∃ v, resultOf T fr st r = .ok v ∧ k v = true := by
  have gen : ∀ r, resK T n t st (.g r) k = true → ∃ v, resultOf T fr st r = .ok v ∧ k v = true := by
    intro r hk
    have hk : (match resultOf T (toFr n t) st r with | .ok v => k v | .error _ => false) = true := hk
    rw [resultOf_alike ((FR.toFr h.le).alike h)] at hk
    split at hk
    · rename_i v e; exact ⟨v, e, hk⟩
    · cases hk
  cases r with
  | cell a ty => exact gen _ hk
  | tmp i =>
    simp only [trR] at hk
    split at hk
    · rename_i hi
      refine ⟨_, rfl, ?_⟩
      have hk : k (getP (pl i) t) = true := hk
      rw [h.get i]
      unfold kget
      rw [hi]; exact hk
    · exact gen _ hk
theorem resAllK_ok {T : TT} {n : Nat} {fr : Fr} {t : Frm} (h : FR fr n t) {st : St} : ∀ {rs : List ResultVar} {k : List AV → Bool}, resAllK T n t st (rs.map trR) k = true → ∃ vs, resultsOf T fr st rs = .ok vs ∧ k vs = true
  | [], _, hk => ⟨[], rfl, hk⟩
  | r :: rs, k, hk => by
    obtain ⟨v, h1, hk⟩ := resK_ok h (r := r) (k := fun v => resAllK T n t st (rs.map trR) fun vs => k (v :: vs)) hk
    obtain ⟨vs, h2, hk⟩ := resAllK_ok h hk
    exact ⟨v :: vs, by simp only [resultsOf]; rw [okBind h1, okBind h2]; rfl, hk⟩
theorem froze_t {r : Res AV} {k : AV → Bool} (h : froze r k = true) : ∃ v, r = .ok v ∧ bare v = true ∧ k v = true := by
  unfold froze at h
  split at h
  · split at h
    · rename_i e; exact ⟨_, rfl, e, h⟩
    · cases h
  · cases h
theorem flatFroze_t {v : AV} {s : St} {b : Nat} {k : AV → Bool} (h : Bool.rec (motive := fun _ => Bool) (froze (freeze s b 100 v) k) (k v) (flatT v) = true) : ∃ w, freeze s b 100 v = .ok w ∧ bare w = true ∧ k w = true := by
  cases e : flatT v with
  | true =>
    rw [e] at h
    exact ⟨v, (flatT_ok e).2 s b, (flatT_ok e).1, h⟩
  | false =>
    rw [e] at h
    exact froze_t h
/-- The fast callers stand for the callers. -/
structure KCOk (C : KC) (D : Caller) : Prop where
  bare : ∀ f args k, C.bare f args k = true → ∃ v, D.bare f args = .ok v ∧ k v = true
  wide : ∀ f args st k, C.wide f args st k = true → ∃ v s, D.wide f args st = .ok (v, s) ∧ k v s = true
  look : ∀ f args st k, C.look f args st k = true → ∃ v, D.look f args st = .ok v ∧ k v = true
theorem bodyK_ok {E : Env} {n : Nat} {C : KC} (hC : KCOk C (caller E n)) (hf : (caller E n).full = E.full) (hl : (caller E n).isLook = E.isLook) {f : FuncId} {fn : Func} {args : List AV} {st : St} {k : AV → St → Bool}
    (hk : bodyK (kcX E n C (trFn E f fn)) (trFn E f fn) n args st k = true) : ∃ v s, body ⟨E.T, E.prim, E.imm f, E.G, caller E n⟩ n fn args st = .ok (v, s) ∧ k v s = true := by
  unfold bodyK at hk
  unfold body
  have hn : (trFn E f fn).ntmps = fn.ntmps := rfl
  cases hb : fn.body with
  | none =>
    exfalso
    have : (trFn E f fn).code = .bad := by unfold trFn; dsimp only; rw [hb]; split <;> rfl
    rw [this] at hk
    split at hk <;> cases hk
  | some c =>
    dsimp only
    rw [hn] at hk
    split at hk
    · cases hk
    · rename_i hle
      rw [hle]
      dsimp only
      cases h1000 : fn.ntmps.blt 1000 with
      | false =>
        exfalso
        have : (trFn E f fn).code = .bad := by unfold trFn; dsimp only; rw [h1000]
        rw [this] at hk; cases hk
      | true =>
        have hcode : (trFn E f fn).code = trC ⟨E.T, E.prim, E.imm f, E.G, E.full, E.isLook, fn.ntmps⟩ c := by unfold trFn; dsimp only; rw [h1000, hb]
        rw [hcode] at hk
        have hfr := FR.args (n := fn.ntmps) args 0 .leaf nilF (FR.start _ (t_blt h1000)) (by have := Nat.le_of_ble_eq_true hle; omega)
        have hX : KTOk ⟨E.T, E.prim, E.imm f, E.G, E.full, E.isLook, fn.ntmps⟩ (kcX E n C (trFn E f fn)) := ⟨rfl, rfl, rfl, rfl, hf.symm, hl.symm, rfl⟩
        obtain ⟨ex, fr', st', t', e1, e2, e3⟩ := execK_ok hX (K := kcX E n C (trFn E f fn)) ⟨hC.bare, hC.wide, hC.look⟩ n c _ _ _ _ _ _ hfr hk
        have fin : finK E.T fn.ntmps (fn.results.toList.map trR) k t' st' = true → ∃ v s, (do
            let r ← resultsOf E.T fr' st' fn.results.toList
            pure (oneOf r, st') : Res (AV × St)) = .ok (v, s) ∧ k v s = true := by
          intro h
          obtain ⟨vs, r1, r2⟩ := resAllK_ok e2 h
          exact ⟨_, _, by rw [okBind r1]; rfl, r2⟩
        have e1' : exec ⟨E.T, E.prim, E.imm f, E.G, caller E n⟩ n c (frameOf fn.ntmps args) st = .ok (ex, fr', st') := e1
        rw [okBind e1']
        cases ex with
        | normal => exact fin e3
        | ret => exact fin e3
        | exit i => cases e3
theorem caller_fullK (E : Env) : ∀ n, (caller E n).full = E.full
  | 0 => rfl
  | _ + 1 => rfl
theorem caller_look (E : Env) : ∀ n, (caller E n).isLook = E.isLook
  | 0 => rfl
  | _ + 1 => rfl
theorem kcaller_ok {E : Env} {F : FuncId → Option KFn} (hF : ∀ f kf, F f = some kf → ∃ fn, E.F f = some fn ∧ kf = trFn E f fn) : ∀ n, KCOk (kcaller E F n) (caller E n)
  | 0 => ⟨fun _ _ _ h => (by cases h), fun _ _ _ _ h => (by cases h), fun _ _ _ _ h => (by cases h)⟩
  | n + 1 => by
    have ih := kcaller_ok hF n
    refine ⟨fun f args k h => ?_, fun f args st k h => ?_, fun f args st k h => ?_⟩
    · have h : kcBare E F n (kcaller E F n) f args k = true := h
      unfold kcBare at h
      split at h
      · rename_i v hm
        exact ⟨v, by simp only [caller, hm], h⟩
      rename_i hm
      split at h
      · cases h
      · rename_i kf hf
        obtain ⟨fn, h1, rfl⟩ := hF f kf hf
        obtain ⟨v, s, h2, h3⟩ := bodyK_ok ih (caller_fullK E n) (caller_look E n) h
        obtain ⟨w, h4, h5, h6⟩ := flatFroze_t h3
        exact ⟨w, by simp only [caller, hm, h1]; rw [okBind h2]; dsimp only; rw [okBind h4, h5]; rfl, h6⟩
    · have h : kcWide E F n (kcaller E F n) f args st k = true := h
      unfold kcWide at h
      split at h
      · split at h
        · cases h
        · rename_i h1
          split at h
          · cases h
          · rename_i r hr
            split at h
            · rename_i x hx
              exact ⟨x.1, x.2, by simp only [caller, h1, hr]; exact hx, h⟩
            · cases h
      · rename_i kf hf
        obtain ⟨fn, h1, rfl⟩ := hF f kf hf
        obtain ⟨v, s, h2, h3⟩ := bodyK_ok ih (caller_fullK E n) (caller_look E n) h
        exact ⟨v, s, by simp only [caller, h1]; rw [okBind h2]; rfl, h3⟩
    · have h : kcLook E F n (kcaller E F n) f args st k = true := h
      unfold kcLook at h
      split at h
      · cases h
      · rename_i kf hf
        obtain ⟨fn, h1, rfl⟩ := hF f kf hf
        obtain ⟨v, s, h2, h3⟩ := bodyK_ok ih (caller_fullK E n) (caller_look E n) h
        obtain ⟨w, h4, h5, h6⟩ := flatFroze_t h3
        exact ⟨w, by simp only [caller, h1]; rw [okBind h2]; dsimp only; rw [okBind h4, h5]; rfl, h6⟩
theorem mapI_get {α β : Type} (g : Nat → α → β) : ∀ (t : Tr α) (f : Nat → Nat) (n : Nat), (Tr.mapI g f t).get n = (t.get n).map (g (f n))
  | .leaf, f, n => by unfold Tr.mapI; rw [Tr.get_leaf, Tr.get_leaf]; rfl
  | .node v l r, f, n => by
    unfold Tr.mapI
    rw [Tr.get_node, Tr.get_node]
    split
    · rename_i e; subst e; cases v <;> rfl
    · split
      · rw [mapI_get g l, show 2 * (n / 2) + 1 = n by omega]
      · rw [mapI_get g r, show 2 * (n / 2 - 1) + 2 = n by omega]
theorem ktable_ok {E : Env} {t : Tr Func} (hE : ∀ f, E.F f = t.get f) : ∀ f kf, (ktable E t).get f = some kf → ∃ fn, E.F f = some fn ∧ kf = trFn E f fn := by
  intro f kf h
  unfold ktable at h
  rw [mapI_get] at h
  obtain ⟨fn, h1, rfl⟩ := Option.map_eq_some_iff.1 h
  exact ⟨fn, (hE f).trans h1, rfl⟩
/-- A run of the fast machine. -/
theorem fast {E : Env} {t : Tr Func} (hE : ∀ f, E.F f = t.get f) {n : Nat} {f : FuncId} {args : List AV} {k : AV → Bool} (h : (kcaller E (fun f => (ktable E t).get f) n).bare f args k = true) :
    ∃ v, (caller E n).bare f args = .ok v ∧ k v = true := (kcaller_ok (ktable_ok hE) n).bare f args k h
/-- Bytes. -/
def bs (l : List Nat) : List UInt8 := l.map UInt8.ofNat
theorem memo_nil {P : Program} {T : TT} {G : Nat → Option (List AV)} {f : FuncId} : ∀ e, e ∈ ([] : List (List AV × AV)) → BareOk P T G f e.1 e.2 := fun _ h => by cases h
theorem memo_cons {P : Program} {E : Env} {t : Tr Func} (hP : EnvOk P E) (hE : ∀ f, E.F f = t.get f) {n : Nat} {f : FuncId} {a : List AV} {v : AV} {l : List (List AV × AV)}
    (h : (kcaller E (fun f => (ktable E t).get f) n).bare f a (sameAV 1000 v) = true) (rest : ∀ e, e ∈ l → BareOk P E.T E.G f e.1 e.2) : ∀ e, e ∈ (a, v) :: l → BareOk P E.T E.G f e.1 e.2 := by
  intro e he
  rcases List.mem_cons.1 he with rfl | he
  · obtain ⟨u, h1, h2⟩ := fast hE h
    rw [← sameAV_eq 1000 v u h2] at h1
    exact (caller_ok hP n).1.bare f a v h1
  · exact rest e he
def lookM (f : FuncId) : List (FuncId × List (List AV × AV)) → List (List AV × AV)
  | [] => []
  | (g, l) :: r => match f.beq g with
    | true => l
    | false => lookM f r
/-- All that is remembered holds. -/
def MemoOk (P : Program) (T : TT) (G : Nat → Option (List AV)) (m : List (FuncId × List (List AV × AV))) : Prop := ∀ f e, e ∈ lookM f m → BareOk P T G f e.1 e.2
theorem tab_nil {P : Program} {T : TT} {G : Nat → Option (List AV)} : MemoOk P T G [] := fun _ _ h => by cases h
theorem tab_cons {P : Program} {T : TT} {G : Nat → Option (List AV)} {g : FuncId} {l : List (List AV × AV)} {m : List (FuncId × List (List AV × AV))} (h : ∀ e, e ∈ l → BareOk P T G g e.1 e.2) (hm : MemoOk P T G m) : MemoOk P T G ((g, l) :: m) := by
  intro f e he
  simp only [lookM] at he
  split at he
  · rename_i hb
    rw [Nat.eq_of_beq_eq_true hb]; exact h e he
  · exact hm f e he
def Env.recall (E : Env) (m : List (FuncId × List (List AV × AV))) : Env := { E with memo := fun f => lookM f m }
theorem EnvOk.recall {P : Program} {E : Env} (h : EnvOk P E) {m : List (FuncId × List (List AV × AV))} (hm : MemoOk P E.T E.G m) : EnvOk P (E.recall m) := ⟨h.T, h.F, h.prim, h.mixed, hm, h.rule, h.wrule⟩
noncomputable def trueK (v : AV) : Bool := boolK v fun b => b
theorem ranTrue {E : Env} {t : Tr Func} (hE : ∀ f, E.F f = t.get f) {n : Nat} {f : FuncId} (h : (kcaller E (fun f => (ktable E t).get f) n).bare f [] trueK = true) : (caller E n).bare f [] = .ok (.bool true) := by
  obtain ⟨v, h1, h2⟩ := fast hE h
  obtain ⟨b, rfl, h3⟩ := boolK_t h2
  rw [h1, h3]
end Go.VM
