/-
  A part of the proof.
-/
import Derived.Test.YtkknkhniadiapaaDoorVmAJ
namespace Go.VM
section
variable {β : Type}
@[simp] theorem letV_eq {α : Type} (a : α) (K : α → Option β) : letV a K = K a := id rfl
@[simp] theorem asI_int (k : IntKind) (n : Int) (K : Int → Option β) : asI k (.int k n) K = K n := by simp [asI]
@[simp] theorem asB_bool (b : Bool) (K : Bool → Option β) : asB (.bool b) K = K b := id rfl
@[simp] theorem asS_str (s : List UInt8) (K : List UInt8 → Option β) : asS (.str s) K = K s := id rfl
@[simp] theorem anyI_int (k : IntKind) (n : Int) (K : Int → Option β) : anyI (.int k n) K = K n := id rfl
@[simp] theorem unA_agg (cs : List AV) (K : List AV → Option β) : unA (.agg cs) K = K cs := id rfl
@[simp] theorem unT_tup (cs : List AV) (K : List AV → Option β) : unT (.tup cs) K = K cs := id rfl
@[simp] theorem unc_cons (v : AV) (l : List AV) (K : AV → List AV → Option β) : unc (v :: l) K = K v l := id rfl
@[simp] theorem un0_nil (K : Option β) : un0 [] K = K := id rfl
@[simp] theorem chk_true (K : Option β) : chk true K = K := id rfl
theorem chk_of {b : Bool} (h : b = true) (K : Option β) : chk b K = K := by rw [h]; rfl
@[simp] theorem ifB_true (x y : Option β) : ifB true x y = x := id rfl
@[simp] theorem ifB_false (x y : Option β) : ifB false x y = y := id rfl
@[simp] theorem ifB_decide (p : Prop) [Decidable p] (x y : Option β) : ifB (decide p) x y = if p then x else y := by
  by_cases h : p <;> simp [h]
@[simp] theorem ifB_beq (a b : Int) (x y : Option β) : ifB (a == b) x y = if a = b then x else y := by
  by_cases h : a = b
  · simp [h]
  · rw [beq_false_of_ne h]; simp [h]
@[simp] theorem ifB_bne (a b : Int) (x y : Option β) : ifB (a != b) x y = if a = b then y else x := by
  by_cases h : a = b
  · simp [h]
  · rw [bne, beq_false_of_ne h]; simp [h]
@[simp] theorem ifB_not (b : Bool) (x y : Option β) : ifB (!b) x y = ifB b y x := by cases b <;> rfl
@[simp] theorem bindO_ok {α : Type} (a : α) (K : α → Option β) : bindO (some a) K = K a := id rfl
@[simp] theorem onSum_inl {α : Type} (a : α) (K : α → Option β) : onSum (.inl a) K = K a := id rfl
@[simp] theorem onSum_inr {α : Type} (b : β) (K : α → Option β) : onSum (.inr b) K = some b := id rfl
@[simp] theorem sel2_zero (a : Option β) (b : Nat → Option β) : sel2 0 a b = a := id rfl
@[simp] theorem sel2_succ (n : Nat) (a : Option β) (b : Nat → Option β) : sel2 (n + 1) a b = b n := id rfl
@[simp] theorem sel2_one (a : Option β) (b : Nat → Option β) : sel2 1 a b = b 0 := id rfl
theorem asOne_of {v : AV} (h : one v = true) (K : Option β) : asOne v K = K := chk_of h K
@[simp] theorem asOne_bool (b : Bool) (K : Option β) : asOne (.bool b) K = K := id rfl
@[simp] theorem asOne_int (k : IntKind) (n : Int) (K : Option β) : asOne (.int k n) K = K := id rfl
@[simp] theorem asOne_str (s : List UInt8) (K : Option β) : asOne (.str s) K = K := id rfl
@[simp] theorem asOne_nils (K : Option β) : asOne .nils K = K := id rfl
@[simp] theorem asOne_sl (z : Nat) (e : List AV) (p : Perm) (K : Option β) : asOne (.sl z e p) K = K := id rfl
@[simp] theorem asOne_mp (i o : Nat) (K : Option β) : asOne (.mp i o) K = K := id rfl
@[simp] theorem asOne_ip (cs : List AV) (K : Option β) : asOne (.ip cs) K = K := id rfl
@[simp] theorem asOne_nilp (K : Option β) : asOne .nilp K = K := id rfl
@[simp] theorem asOne_mm (i : Nat) (K : Option β) : asOne (.mm i) K = K := id rfl
@[simp] theorem asOne_nilm (K : Option β) : asOne .nilm K = K := id rfl
@[simp] theorem asOne_fn (f : Fn) (a b : List AV) (K : Option β) : asOne (.fn f a b) K = K := id rfl
@[simp] theorem nthS_zero (v : AV) (l : List AV) (K : AV → Option β) : nthS (v :: l) 0 K = K v := id rfl
@[simp] theorem nthS_succ (v : AV) (l : List AV) (n : Nat) (K : AV → Option β) : nthS (v :: l) (n + 1) K = nthS l n K := id rfl
@[simp] theorem nthS_one (u v : AV) (l : List AV) (K : AV → Option β) : nthS (u :: v :: l) 1 K = K v := id rfl
@[simp] theorem nthS_two (u v w : AV) (l : List AV) (K : AV → Option β) : nthS (u :: v :: w :: l) 2 K = K w := id rfl
@[simp] theorem nthS_three (u v w x : AV) (l : List AV) (K : AV → Option β) : nthS (u :: v :: w :: x :: l) 3 K = K x := id rfl
@[simp] theorem nthS_four (u v w x y : AV) (l : List AV) (K : AV → Option β) : nthS (u :: v :: w :: x :: y :: l) 4 K = K y := id rfl
@[simp] theorem nthS_five (u v w x y z : AV) (l : List AV) (K : AV → Option β) : nthS (u :: v :: w :: x :: y :: z :: l) 5 K = K z := id rfl
@[simp] theorem fldA_ip (off : Nat) (cs : List AV) (K : AV → Option β) : fldA off (.ip cs) K = K (.ip (cs.drop off)) := id rfl
@[simp] theorem fldA_gp (off i n o : Nat) (K : AV → Option β) : fldA off (.gp i n o) K = K (.gp i n (o + off)) := id rfl
@[simp] theorem fldA_mp (off i o : Nat) (K : AV → Option β) : fldA off (.mp i o) K = K (.mp i (o + off)) := id rfl
def takeO (size : Nat) (agg : Bool) (cs : List AV) : Option AV := toO (takeCells size agg cs)
@[simp] theorem takeO_one (z : Nat) (v : AV) (l : List AV) : takeO z false (v :: l) = some v := id rfl
theorem takeO_agg {z : Nat} {cs : List AV} (h : z ≤ cs.length) : takeO z true cs = some (.agg (cs.take z)) := by
  simp only [takeO, takeCells, Nat.ble_eq_true_of_le h, toO]
@[simp] theorem loadS_ip (z : Nat) (g : Bool) (cs : List AV) (st : St) (K : AV → List Nat → Option β) : loadS z g (.ip cs) st K = bindO (takeO z g cs) fun v => K v [] := by
  unfold loadS loadO takeO
  dsimp only
  cases takeCells z g cs <;> rfl
theorem loadS_mp {st : St} {i : Nat} {t : TypeId} {cs : List AV} (h : st.get i = .ok (.cells t cs)) (z : Nat) (g : Bool) (o : Nat) (K : AV → List Nat → Option β) : loadS z g (.mp i o) st K = bindO (takeO z g (cs.drop o)) fun v => K v [i] := by
  unfold loadS loadO takeO
  dsimp only
  rw [h]
  dsimp only
  cases takeCells z g (cs.drop o) <;> rfl
@[simp] theorem nnil_mp (i o : Nat) (K : Option β) : nnil (.mp i o) K = K := id rfl
@[simp] theorem nnil_ip (cs : List AV) (K : Option β) : nnil (.ip cs) K = K := id rfl
@[simp] theorem asOne_es (K : Option β) : asOne .es K = K := id rfl
@[simp] theorem fit1_es (K : AV → Option β) : fit1 .es K = K .es := id rfl
@[simp] theorem lenS_nils (K : Nat → Option β) : lenS .nils K = K 0 := id rfl
@[simp] theorem lenS_sl (z : Nat) (e : List AV) (p : Perm) (K : Nat → Option β) : lenS (.sl z e p) K = K e.length := id rfl
@[simp] theorem fit1_bool (b : Bool) (K : AV → Option β) : fit1 (.bool b) K = K (.bool b) := id rfl
@[simp] theorem fit1_int (k : IntKind) (n : Int) (K : AV → Option β) : fit1 (.int k n) K = K (.int k n) := id rfl
@[simp] theorem fit1_str (s : List UInt8) (K : AV → Option β) : fit1 (.str s) K = K (.str s) := id rfl
@[simp] theorem fit1_nils (K : AV → Option β) : fit1 .nils K = K .nils := id rfl
@[simp] theorem fit1_wide (z : Nat) (e : List AV) (K : AV → Option β) : fit1 (.sl z e .wide) K = K (.sl z e .wide) := id rfl
@[simp] theorem fit1_shut (z : Nat) (e : List AV) (K : AV → Option β) : fit1 (.sl z e .shut) K = K (.sl z e .shut) := id rfl
@[simp] theorem fit1_own (z k : Nat) (e : List AV) (K : AV → Option β) : fit1 (.sl z e (.own k)) K = K (.sl z e .wide) := id rfl
theorem insideS_of {i : Int} {n : Nat} (h0 : 0 ≤ i) (h1 : i < n) (K : Nat → Option β) : insideS i n K = K i.toNat := by
  obtain ⟨k, rfl⟩ := Int.eq_ofNat_of_zero_le h0
  have : k.blt n = true := blt_true.2 (by omega)
  simp only [insideS]
  show chk (k.blt n) (K k) = _
  rw [chk_of this]; rfl
theorem uptoS_of {i : Int} {n : Nat} (h0 : 0 ≤ i) (h1 : i ≤ n) (K : Nat → Option β) : uptoS i n K = K i.toNat := by
  obtain ⟨k, rfl⟩ := Int.eq_ofNat_of_zero_le h0
  have : k.ble n = true := Nat.ble_eq_true_of_le (by omega)
  show chk (k.ble n) (K k) = _
  rw [chk_of this]; rfl
theorem insideS_nat {k n : Nat} (h : k < n) (K : Nat → Option β) : insideS (k : Int) n K = K k := insideS_of (by omega) (by omega) K
theorem uptoS_nat {k n : Nat} (h : k ≤ n) (K : Nat → Option β) : uptoS (k : Int) n K = K k := uptoS_of (by omega) (by omega) K
theorem idxStr_nat {s : List UInt8} {k : Nat} (h : k < s.length) (K : UInt8 → Option β) : idxStr s (k : Int) K = K s[k] := by
  unfold idxStr
  rw [insideS_nat h]
  simp [h]
end
theorem nthO_of : ∀ {l : List AV} {n : Nat} {v : AV}, l[n]? = some v → nthO l n = some v
  | [], _, _, h => by simp at h
  | _ :: _, 0, _, h => by simpa [nthO] using h
  | _ :: l, n + 1, _, h => by simp only [nthO]; exact nthO_of (by simpa using h)
def IsSl (z : Nat) (x : AV) (es : List AV) : Prop := es.length ≤ 9223372036854775807 ∧ (((x = .nils ∨ x = .es) ∧ es = []) ∨ x = .sl z es .shut ∨ x = .sl z es .wide)
namespace IsSl
variable {β : Type} {z : Nat} {x : AV} {es : List AV}
theorem nils : IsSl z .nils [] := ⟨by simp, .inl ⟨.inl rfl, rfl⟩⟩
theorem emp : IsSl z .es [] := ⟨by simp, .inl ⟨.inr rfl, rfl⟩⟩
theorem wide (h : es.length ≤ 9223372036854775807) : IsSl z (.sl z es .wide) es := ⟨h, .inr (.inr rfl)⟩
theorem shut (h : es.length ≤ 9223372036854775807) : IsSl z (.sl z es .shut) es := ⟨h, .inr (.inl rfl)⟩
theorem one (h : IsSl z x es) : VM.one x = true := by rcases h.2 with ⟨rfl | rfl, rfl⟩ | rfl | rfl <;> rfl
theorem bare (h : IsSl z x es) : VM.bare x = true := by rcases h.2 with ⟨rfl | rfl, rfl⟩ | rfl | rfl <;> rfl
theorem strip (h : IsSl z x es) : VM.strip x = x := by rcases h.2 with ⟨rfl | rfl, rfl⟩ | rfl | rfl <;> rfl
theorem asOne (h : IsSl z x es) (K : Option β) : asOne x K = K := asOne_of h.one K
theorem fit1 (h : IsSl z x es) (K : AV → Option β) : fit1 x K = K x := by rcases h.2 with ⟨rfl | rfl, rfl⟩ | rfl | rfl <;> rfl
theorem len (h : IsSl z x es) (K : Nat → Option β) : lenS x K = K es.length := by rcases h.2 with ⟨rfl | rfl, rfl⟩ | rfl | rfl <;> rfl
theorem elems (h : IsSl z x es) (K : List AV → Option β) : elemsS x K = K es := by rcases h.2 with ⟨rfl | rfl, rfl⟩ | rfl | rfl <;> rfl
theorem idx (h : IsSl z x es) {k : Nat} {v : AV} (hk : es[k]? = some v) (st : St) (K : AV → List Nat → Option β) : idxA z x (k : Int) st K = K (.ip v.cells) [] := by
  have hlt : k < es.length := (List.getElem?_eq_some_iff.1 hk).1
  have hz : z.beq z = true := Nat.beq_refl z
  have hi : insideO (k : Int) es.length = some k := by
    show (match k.blt es.length with | true => some k | false => none) = _
    rw [blt_true.2 hlt]
  have hn : nthO es k = some v := nthO_of hk
  have hlen := h.1
  rcases h.2 with ⟨rfl | rfl, rfl⟩ | rfl | rfl
  · simp at hlt
  · simp at hlt
  · simp only [idxA, idxO, hz, hi, hn, bindO_ok]
  · simp only [idxA, idxO, hz, hi, hn, bindO_ok]
theorem slice (h : IsSl z x es) {lo hi : Option Int} {l m : Nat} (hl : hiO lo m 0 = some l) (hh : hiO hi es.length es.length = some m) (K : AV → Option β) :
    ∃ x', IsSl z x' ((es.take m).drop l) ∧ sliceS z x lo hi none K = K x' := by
  have hz : z.beq z = true := Nat.beq_refl z
  have hlen := h.1
  rcases h.2 with ⟨rfl | rfl, rfl⟩ | rfl | rfl
  · have hh : hiO hi 0 0 = some m := hh
    refine ⟨.nils, ⟨by simp, .inl ⟨.inl rfl, by simp⟩⟩, ?_⟩
    simp only [sliceS, sliceO, show hiO none 0 0 = some 0 from rfl, hh, hl, bindO_ok]
  · have hh : hiO hi 0 0 = some m := hh
    refine ⟨.es, ⟨by simp, .inl ⟨.inr rfl, by simp⟩⟩, ?_⟩
    simp only [sliceS, sliceO, show hiO none 0 0 = some 0 from rfl, hh, hl, bindO_ok]
  · simp only [sliceS, sliceO, hz, hh, hl]
    cases e : m.beq es.length with
    | true =>
      have := Nat.eq_of_beq_eq_true e
      subst this
      exact ⟨.sl z (es.drop l) .shut, by simpa using IsSl.shut (z := z) (es := es.drop l) (by rw [List.length_drop]; omega), rfl⟩
    | false => exact ⟨_, IsSl.wide (by rw [List.length_drop, List.length_take]; omega), rfl⟩
  · simp only [sliceS, sliceO, hz, hh, hl]
    cases e : m.beq es.length with
    | true => exact ⟨_, IsSl.wide (by rw [List.length_drop, List.length_take]; omega), rfl⟩
    | false => exact ⟨_, IsSl.wide (by rw [List.length_drop, List.length_take]; omega), rfl⟩
end IsSl
theorem hiO_nat {k n d : Nat} (h : k ≤ n) : hiO (some (k : Int)) n d = some k := by
  show (match k.ble n with | true => some k | false => none) = _
  rw [Nat.ble_eq_true_of_le h]
theorem hiO_none {n d : Nat} : hiO none n d = some d := rfl
def Own (st : St) (z : Nat) (e : TypeId) (v : AV) (es : List AV) : Prop :=
  st.ro ≤ st.h ∧ es.length ≤ 9223372036854775807 ∧ (((v = .nils ∨ v = .es) ∧ es = []) ∨ v = .sl z es .shut ∨ ∃ k, v = .sl z es (.own k) ∧ st.get k = .ok (.tok es.length e) ∧ st.ro ≤ k)
theorem Own.nils {st : St} (h : st.ro ≤ st.h) (z : Nat) (e : TypeId) : Own st z e .nils [] := ⟨h, by simp, .inl ⟨.inl rfl, rfl⟩⟩
theorem Own.shut {st : St} (h : st.ro ≤ st.h) {z : Nat} (e : TypeId) {es : List AV} (hl : es.length ≤ 9223372036854775807) : Own st z e (.sl z es .shut) es := ⟨h, hl, .inr (.inl rfl)⟩
theorem Own.one {st : St} {z : Nat} {e : TypeId} {v : AV} {es : List AV} (h : Own st z e v es) : VM.one v = true := by
  rcases h with ⟨_, _, ⟨rfl | rfl, _⟩ | rfl | ⟨k, rfl, _⟩⟩ <;> rfl
theorem St.get_add_new {st : St} {o : Obj} : (st.add o).get st.h = .ok o := St.get_new_ok.2 (.inl ⟨rfl, rfl⟩)
theorem St.get_add_old {st : St} {o : Obj} {j : Nat} {x : Obj} (h : st.get j = .ok x) : (st.add o).get j = .ok x := St.get_new_ok.2 (.inr ⟨(St.get_ok.1 h).1, h⟩)
structure Keeps (st st' : St) (but : Nat → Prop) : Prop where
  ro : st'.ro = st.ro
  h : st.h ≤ st'.h
  old : ∀ j o, ¬ but j → st.get j = .ok o → st'.get j = .ok o
theorem Keeps.refl (st : St) (but : Nat → Prop) : Keeps st st but := ⟨rfl, Nat.le_refl _, fun _ _ _ h => h⟩
theorem Keeps.trans {a b c : St} {p : Nat → Prop} (h : Keeps a b p) (k : Keeps b c p) : Keeps a c p :=
  ⟨k.ro.trans h.ro, Nat.le_trans h.h k.h, fun j o hj hg => k.old j o hj (h.old j o hj hg)⟩
theorem Keeps.add (st : St) (o : Obj) (but : Nat → Prop) : Keeps st (st.add o) but := ⟨rfl, Nat.le_succ _, fun _ _ _ h => St.get_add_old h⟩
theorem Keeps.put {st : St} {i : Nat} {o : Obj} {but : Nat → Prop} (hb : but i) : Keeps st (st.put i o) but :=
  ⟨rfl, Nat.le_refl _, fun j x hj h => by
    have : i ≠ j := by rintro rfl; exact hj hb
    rw [St.get_put_ne this]; exact h⟩
def ownerOf (v : AV) (j : Nat) : Prop := ∃ z es, v = .sl z es (.own j)
theorem appS_of {β : Type} {z b : Nat} {e : TypeId} {s : AV} {new : List AV} {st : St} {v : AV} {st' : St} {x : Fx} (h : appO z b e s new st = some (v, st', x)) (K : Kv β) : appS z b e s new st K = K v st' x := by
  simp only [appS, outS, h, bindO_ok]
theorem Own.not {st : St} {z : Nat} {e : TypeId} {v : AV} {ws : List AV} {j : Nat} {t : TypeId} {cs : List AV} (h : Own st z e v ws) (hj : st.get j = .ok (.cells t cs)) : ¬ ownerOf v j := by
  rintro ⟨z, es, rfl⟩
  rcases h with ⟨_, _, ⟨h | h, _⟩ | h | ⟨k, h, hg, _⟩⟩
  · cases h
  · cases h
  · cases h
  · cases h; rw [hj] at hg; cases hg
theorem app_own {st : St} {z b : Nat} {e : TypeId} {v : AV} {es new : List AV} (h : Own st z e v es) (hn : new ≠ []) (hr : roomOk (es.length + new.length) ⟨.other, z, b, [], false, false⟩ = true) :
    ∃ v' st' x, appO z b e v new st = some (v', st', x) ∧ Own st' z e v' (es ++ new) ∧ Keeps st st' (ownerOf v) ∧ (∀ j, ownerOf v' j → ownerOf v j ∨ st.h ≤ j) := by
  have hlen : (es ++ new).length ≤ 9223372036854775807 := by
    simp only [roomOk, Bool.and_eq_true] at hr
    rw [List.length_append]; exact Nat.le_trans (Nat.le_of_ble_eq_true hr.2.2) (by omega)
  have hz : z.beq z = true := Nat.beq_refl z
  cases new with
  | nil => exact absurd rfl hn
  | cons a l =>
    have fresh : ∀ n, n = (es ++ a :: l).length → appO z b e v (a :: l) st = madeO st (.tok n e) (fun k => .sl z (es ++ a :: l) (.own k)) → ∃ v' st' x, appO z b e v (a :: l) st = some (v', st', x) ∧ Own st' z e v' (es ++ a :: l) ∧ Keeps st st' (ownerOf v) ∧ (∀ j, ownerOf v' j → ownerOf v j ∨ st.h ≤ j) := by
      intro n hn he
      refine ⟨.sl z (es ++ a :: l) (.own st.h), st.add (.tok n e), ⟨[], .made st.h (.tok n e)⟩, he, ⟨Nat.le_succ_of_le h.1, hlen, .inr (.inr ⟨st.h, rfl, ?_, h.1⟩)⟩, Keeps.add _ _ _, ?_⟩
      · rw [← hn]; exact St.get_add_new
      · rintro j ⟨z', es', e⟩; cases e; exact .inr (Nat.le_refl _)
    rcases h.2.2 with ⟨rfl | rfl, rfl⟩ | rfl | ⟨k, rfl, hg, hro⟩
    · simp only [List.length_nil, Nat.zero_add] at hr
      exact fresh (a :: l).length rfl (by simp only [appO, hr, List.nil_append])
    · simp only [List.length_nil, Nat.zero_add] at hr
      exact fresh (a :: l).length rfl (by simp only [appO, hr, List.nil_append])
    · exact fresh (es.length + (a :: l).length) (by rw [List.length_append]) (by simp only [appO, hr, hz, Bool.and_self])
    · have h1 : (es.length.beq es.length && Nat.beq e e) = true := by simp
      have h2 : (st.ro.ble k) = true := Nat.ble_eq_true_of_le hro
      refine ⟨.sl z (es ++ a :: l) (.own k), st.put k (.tok (es.length + (a :: l).length) e), ⟨[k], .wrote k (.tok (es.length + (a :: l).length) e)⟩, ?_, ⟨h.1, hlen, .inr (.inr ⟨k, rfl, ?_, hro⟩)⟩, Keeps.put ⟨z, es, rfl⟩, ?_⟩
      · simp only [appO, hr, hz, Bool.and_self, hg, h1, wroteO, h2]
      · rw [St.get_put_same (St.get_ok.1 hg).1, List.length_append]
      · rintro j ⟨z', es', e⟩; cases e; exact .inl ⟨_, _, rfl⟩
theorem frz_own {β : Type} {st : St} {z : Nat} {e : TypeId} {v : AV} {es : List AV} (h : Own st z e v es) : ∃ x, IsSl z x es ∧ ∀ (K : AV → Option β), frzS st 0 v K = K x := by
  rcases h with ⟨_, hl, ⟨rfl | rfl, rfl⟩ | rfl | ⟨k, rfl, _, _⟩⟩
  · exact ⟨.nils, IsSl.nils, fun _ => rfl⟩
  · exact ⟨.es, IsSl.emp, fun _ => rfl⟩
  · exact ⟨.sl z es .shut, IsSl.shut hl, fun _ => rfl⟩
  · exact ⟨.sl z es .wide, IsSl.wide hl, fun _ => rfl⟩
theorem callS_bare {β : Type} {E : Env} {f : FuncId} {args : List AV} {v : AV} (st : St) (K : Kv β) (hf : E.full f = false) (hs : args.map strip = args) (hb : bares args = true) (h : (orc E).bare f args = some v) :
    callS (orc E) f args st K = K v st q0 := by
  have h1 : (bares (args.map strip) && !(orc E).full f) = true := by
    rw [hs, hb]
    show (true && !E.full f) = true
    rw [hf]; rfl
  unfold callS outS callO
  rw [h1, hs, h]
  rfl
theorem callS_wide {β : Type} {E : Env} {f : FuncId} {args : List AV} {v : AV} {st st' : St} (K : Kv β) (hl : E.isLook f = false) (hb : (bares (args.map strip) && !E.full f) = false) (h : (orc E).wide f args st = some (v, st')) :
    callS (orc E) f args st K = K v st' ⟨[], .all st st'⟩ := by
  have h1 : (bares (args.map strip) && !(orc E).full f) = false := hb
  have h2 : (orc E).isLook f = false := hl
  unfold callS outS callO
  rw [h1, h2, h]
  rfl
theorem wrap_i64 {n : Int} (h1 : -9223372036854775808 ≤ n) (h2 : n ≤ 9223372036854775807) : IntKind.wrap .i64 n = n := by
  have e : IntKind.wrap .i64 n = if n % 18446744073709551616 ≥ 9223372036854775808 then n % 18446744073709551616 - 18446744073709551616 else n % 18446744073709551616 := by
    show (if (true && decide (n % (2 ^ 64 : Int) ≥ (2 ^ 63 : Int))) = true then n % (2 ^ 64 : Int) - (2 ^ 64 : Int) else n % (2 ^ 64 : Int)) = _
    simp
  rw [e]
  split <;> omega
theorem drop_cons {α : Type} {l m : List α} {i : Nat} {v : α} (h : l.drop i = v :: m) : l[i]? = some v ∧ l.drop (i + 1) = m ∧ i < l.length := by
  have h1 : (l.drop i)[0]? = some v := by rw [h]; rfl
  rw [List.getElem?_drop] at h1
  refine ⟨by simpa using h1, ?_, ?_⟩
  · rw [← List.drop_drop, h]; rfl
  · exact (List.getElem?_eq_some_iff.1 (by simpa using h1)).1
end Go.VM
namespace Go.VM
open Go
section
variable {β α : Type}
@[congr] theorem letV_congr {a a' : α} {K : α → Option β} (h : a = a') : letV a K = letV a' K := by rw [h]
@[congr] theorem asI_congr {k : IntKind} {v v' : AV} {K : Int → Option β} (h : v = v') : asI k v K = asI k v' K := by rw [h]
@[congr] theorem asB_congr {v v' : AV} {K : Bool → Option β} (h : v = v') : asB v K = asB v' K := by rw [h]
@[congr] theorem asS_congr {v v' : AV} {K : List UInt8 → Option β} (h : v = v') : asS v K = asS v' K := by rw [h]
@[congr] theorem anyI_congr {v v' : AV} {K : Int → Option β} (h : v = v') : anyI v K = anyI v' K := by rw [h]
@[congr] theorem unA_congr {v v' : AV} {K : List AV → Option β} (h : v = v') : unA v K = unA v' K := by rw [h]
@[congr] theorem unT_congr {v v' : AV} {K : List AV → Option β} (h : v = v') : unT v K = unT v' K := by rw [h]
@[congr] theorem unc_congr {v v' : List AV} {K : AV → List AV → Option β} (h : v = v') : unc v K = unc v' K := by rw [h]
@[congr] theorem un0_congr {v v' : List AV} {K : Option β} (h : v = v') : un0 v K = un0 v' K := by rw [h]
@[congr] theorem chk_congr {v v' : Bool} {K : Option β} (h : v = v') : chk v K = chk v' K := by rw [h]
@[congr] theorem ifB_congr {v v' : Bool} {x y : Option β} (h : v = v') : ifB v x y = ifB v' x y := by rw [h]
@[congr] theorem bindO_congr {v v' : Option α} {K : α → Option β} (h : v = v') : bindO v K = bindO v' K := by rw [h]
@[congr] theorem onSum_congr {v v' : Sum α β} {K : α → Option β} (h : v = v') : onSum v K = onSum v' K := by rw [h]
@[congr] theorem sel2_congr {n n' : Nat} {a : Option β} {b : Nat → Option β} (h : n = n') : sel2 n a b = sel2 n' a b := by rw [h]
@[congr] theorem asOne_congr {v v' : AV} {K : Option β} (h : v = v') : asOne v K = asOne v' K := by rw [h]
@[congr] theorem nthS_congr {l l' : List AV} {n : Nat} {K : AV → Option β} (h : l = l') : nthS l n K = nthS l' n K := by rw [h]
@[congr] theorem fldA_congr {o : Nat} {v v' : AV} {K : AV → Option β} (h : v = v') : fldA o v K = fldA o v' K := by rw [h]
@[congr] theorem loadS_congr {z : Nat} {g : Bool} {v v' : AV} {st st' : St} {K : AV → List Nat → Option β} (h : v = v') (h' : st = st') : loadS z g v st K = loadS z g v' st' K := by rw [h, h']
@[congr] theorem fit1_congr {v v' : AV} {K : AV → Option β} (h : v = v') : fit1 v K = fit1 v' K := by rw [h]
@[congr] theorem nnil_congr {v v' : AV} {K : Option β} (h : v = v') : nnil v K = nnil v' K := by rw [h]
@[congr] theorem lenS_congr {v v' : AV} {K : Nat → Option β} (h : v = v') : lenS v K = lenS v' K := by rw [h]
@[congr] theorem elemsS_congr {v v' : AV} {K : List AV → Option β} (h : v = v') : elemsS v K = elemsS v' K := by rw [h]
@[congr] theorem idxA_congr {z : Nat} {v v' : AV} {i i' : Int} {st st' : St} {K : AV → List Nat → Option β} (h : v = v') (h1 : i = i') (h2 : st = st') : idxA z v i st K = idxA z v' i' st' K := by rw [h, h1, h2]
@[congr] theorem idxStr_congr {v v' : List UInt8} {i i' : Int} {K : UInt8 → Option β} (h : v = v') (h1 : i = i') : idxStr v i K = idxStr v' i' K := by rw [h, h1]
@[congr] theorem insideS_congr {i i' : Int} {n n' : Nat} {K : Nat → Option β} (h : i = i') (h1 : n = n') : insideS i n K = insideS i' n' K := by rw [h, h1]
@[congr] theorem uptoS_congr {i i' : Int} {n n' : Nat} {K : Nat → Option β} (h : i = i') (h1 : n = n') : uptoS i n K = uptoS i' n' K := by rw [h, h1]
@[congr] theorem sliceS_congr {z : Nat} {v v' : AV} {a a' b b' c c' : Option Int} {K : AV → Option β} (h : v = v') (h1 : a = a') (h2 : b = b') (h3 : c = c') : sliceS z v a b c K = sliceS z v' a' b' c' K := by rw [h, h1, h2, h3]
@[congr] theorem appS_congr {z b : Nat} {e : TypeId} {v v' : AV} {n n' : List AV} {st st' : St} {K : Kv β} (h : v = v') (h1 : n = n') (h2 : st = st') : appS z b e v n st K = appS z b e v' n' st' K := by rw [h, h1, h2]
@[congr] theorem fitTs_congr {g : Bool} {l l' : List AV} {K : List AV → Option β} (h : l = l') : fitTs g l K = fitTs g l' K := by rw [h]
@[congr] theorem callS_congr {O : Orc} {f : FuncId} {l l' : List AV} {st st' : St} {K : Kv β} (h : l = l') (h1 : st = st') : callS O f l st K = callS O f l' st' K := by rw [h, h1]
@[congr] theorem planS_congr {O : Orc} {p p' : Res Plan} {st st' : St} {K : Kv β} (h : p = p') (h1 : st = st') : planS O p st K = planS O p' st' K := by rw [h, h1]
@[congr] theorem callF_congr {O : Orc} {pr : FuncId → Option Prim} {f f' : AV} {l l' : List AV} {st st' : St} {K : Kv β} (h0 : f = f') (h : l = l') (h1 : st = st') : callF O pr f l st K = callF O pr f' l' st' K := by rw [h0, h, h1]
@[congr] theorem storeS_congr {O : Orc} {z : Nat} {a a' v v' : AV} {l l' : List AV} {st st' : St} {K : Kv β} (h0 : a = a') (h2 : v = v') (h : l = l') (h1 : st = st') : storeS O z a v l st K = storeS O z a' v' l' st' K := by rw [h0, h2, h, h1]
@[congr] theorem frzS_congr {st st' : St} {b : Nat} {v v' : AV} {K : AV → Option β} (h1 : st = st') (h : v = v') : frzS st b v K = frzS st' b v' K := by rw [h1, h]
@[congr] theorem made_congr {st st' : St} {o o' : Obj} {f : Nat → AV} {K : Kv β} (h1 : st = st') (h : o = o') : made st o f K = made st' o' f K := by rw [h1, h]
@[congr] theorem nilS_congr {u : U} {v v' w w' : AV} {K : Bool → Option β} (h : v = v') (h1 : w = w') : nilS u v w K = nilS u v' w' K := by rw [h, h1]
@[congr] theorem letSt_congr {a a' : St} {K : St → Option β} (h : a = a') : letSt a K = letSt a' K := by rw [h]
@[simp] theorem letSt_eq (a : St) (K : St → Option β) : letSt a K = K a := id rfl
end
theorem loopO_inl {σ β : Type} {F : σ → Option (Sum σ β)} {s s' : σ} (h : F s = some (.inl s')) : loopO F s = loopO F s' := by rw [loopO_eq, h]
theorem loopO_inr {σ β : Type} {F : σ → Option (Sum σ β)} {s : σ} {r : β} (h : F s = some (.inr r)) : loopO F s = some r := by rw [loopO_eq, h]
def Fz (d : Nat) (v : AV) : Prop := ∀ st base n, d ≤ n → freeze st base n v = .ok v
theorem fz_int (k : IntKind) (m : Int) : Fz 1 (.int k m) := fun _ _ n hn => by cases n with | zero => omega | succ n => rfl
theorem fz_str (s : List UInt8) : Fz 1 (.str s) := fun _ _ n hn => by cases n with | zero => omega | succ n => rfl
theorem fz_nilp : Fz 1 .nilp := fun _ _ n hn => by cases n with | zero => omega | succ n => rfl
theorem fz_ip (cs : List AV) : Fz 1 (.ip cs) := fun _ _ n hn => by cases n with | zero => omega | succ n => rfl
theorem allE_fz {st : St} {base n d : Nat} (hn : d ≤ n) : ∀ {cs : List AV}, (∀ c ∈ cs, Fz d c) → allE (freeze st base n) cs = .ok cs
  | [], _ => rfl
  | c :: cs, h => by
    have h1 := h c (by simp) st base n hn
    have h2 := allE_fz (st := st) (base := base) hn fun c hc => h c (List.mem_cons_of_mem _ hc)
    simp only [allE, h1, h2, ok_bind, pure_eq]
theorem fz_tup {d : Nat} {cs : List AV} (h : ∀ c ∈ cs, Fz d c) : Fz (d + 1) (.tup cs) := fun st base n hn => by
  cases n with
  | zero => omega
  | succ n =>
    show (do pure (.tup (← allE (freeze st base n) cs)) : Res AV) = _
    rw [allE_fz (by omega) h]; rfl
theorem frz_of {β : Type} {d : Nat} {v : AV} (h : Fz d v) (hd : d ≤ 100) (hb : bare v = true) (st : St) (base : Nat) (K : AV → Option β) : frzS st base v K = K v := by
  simp only [frzS, h st base 100 hd, hb, chk_true]
theorem storeS_at {β : Type} {O : Orc} {st : St} {id off : Nat} {t : TypeId} {old : List AV} {z : Nat} {v : AV} {cs : List AV} (hg : st.get id = .ok (.cells t old)) (hz : cs.length = z) (hl : off + cs.length ≤ old.length) (hro : st.ro ≤ id) (K : Kv β) :
    storeS O z (.mp id off) v cs st K = K undef (st.put id (.cells t (splice old off cs))) ⟨[id], .wrote id (.cells t (splice old off cs))⟩ := by
  have h1 : cs.length.beq z = true := by rw [hz]; exact Nat.beq_refl z
  simp only [storeS, outS, storeO, h1, hg, Nat.ble_eq_true_of_le hl, wroteO, Nat.ble_eq_true_of_le hro, bindO_ok, splS]
theorem splice_all {old cs : List AV} (h : cs.length = old.length) : splice old 0 cs = cs := by
  simp only [splice, List.take_zero, List.nil_append, Nat.zero_add]
  rw [h, List.drop_length, List.append_nil]
theorem St.add_ro {st : St} {o : Obj} : (st.add o).ro = st.ro := rfl
theorem local_var {O : Orc} {st : St} {t : TypeId} {z : Nat} {old cs : List AV} (v : AV) (hl : old.length = z) (hc : cs.length = z) (hro : st.ro ≤ st.h) :
    ∃ st', st'.get st.h = .ok (.cells t cs) ∧ Keeps st st' (fun _ => False) ∧ st'.h = st.h + 1 ∧ ∃ fx, ∀ {β : Type} (K : Kv β), storeS O z (.mp st.h 0) v cs (st.add (.cells t old)) K = K undef st' fx := by
  have hg : (st.add (.cells t old)).get st.h = .ok (.cells t old) := St.get_add_new
  refine ⟨(st.add (.cells t old)).put st.h (.cells t cs), St.get_put_same (Nat.lt_succ_self _), ⟨rfl, Nat.le_succ _, fun j o _ hj => ?_⟩, rfl, ⟨[st.h], .wrote st.h (.cells t (splice old 0 cs))⟩, fun K => ?_⟩
  · have hlt := (St.get_ok.1 hj).1
    rw [St.get_put_ne (by omega)]
    exact St.get_add_old hj
  · rw [storeS_at hg hc (by omega) hro]
    rw [splice_all (by omega)]
theorem IsSl.cut {z : Nat} {x : AV} {es : List AV} (h : IsSl z x es) {lo hi : Option Int} {l m : Nat} (hl : hiO lo m 0 = some l) (hh : hiO hi es.length es.length = some m) :
    ∃ x', IsSl z x' ((es.take m).drop l) ∧ ∀ {β : Type} (K : AV → Option β), sliceS z x lo hi none K = K x' := by
  obtain ⟨x', hx, e⟩ := h.slice hl hh (some : AV → Option AV)
  refine ⟨x', hx, fun K => ?_⟩
  have e : bindO (sliceO z x lo hi none) some = some x' := e
  show bindO (sliceO z x lo hi none) K = _
  cases hs : sliceO z x lo hi none with
  | none => rw [hs] at e; cases e
  | some u => rw [hs] at e; cases e; rfl
@[simp] theorem apart_kept (r : List Nat) : apart ⟨r, .kept⟩ q0 = true := id rfl
@[simp] theorem apart_kept2 (r : List Nat) : apart q0 ⟨r, .kept⟩ = true := id rfl
theorem bare_tup {cs : List AV} : bare (.tup cs) = bares cs := rfl
def BufOk (st : St) (u8 : TypeId) (a : AV) (out : List UInt8) : Prop := (a = .nils ∧ out = []) ∨ ∃ k, a = .sl 1 (ofBytes out) (.own k) ∧ st.get k = .ok (.tok out.length u8) ∧ st.ro ≤ k ∧ out ≠ []
def IsB (st : St) (T u8 : TypeId) (p : Nat) (pre post : List AV) (out : List UInt8) : Prop :=
  ∃ a0 a1, st.get p = .ok (.cells T (pre ++ a0 :: a1 :: post)) ∧ (a0 = .nilp ∨ a0 = .mp p pre.length) ∧ BufOk st u8 a1 out ∧ st.ro ≤ p
structure KeepsB (st st' : St) (u8 : TypeId) (p : Nat) : Prop where
  ro : st'.ro = st.ro
  h : st.h ≤ st'.h
  old : ∀ j o, j ≠ p → (∀ n, o ≠ .tok n u8) → st.get j = .ok o → st'.get j = .ok o
theorem KeepsB.refl (st : St) (u8 : TypeId) (p : Nat) : KeepsB st st u8 p := ⟨rfl, Nat.le_refl _, fun _ _ _ _ h => h⟩
theorem KeepsB.trans {a b c : St} {u8 : TypeId} {p : Nat} (h : KeepsB a b u8 p) (k : KeepsB b c u8 p) : KeepsB a c u8 p :=
  ⟨k.ro.trans h.ro, Nat.le_trans h.h k.h, fun j o hj ho hg => k.old j o hj ho (h.old j o hj ho hg)⟩
theorem KeepsB.put {st : St} {u8 : TypeId} {p : Nat} {o : Obj} : KeepsB st (st.put p o) u8 p := ⟨rfl, Nat.le_refl _, fun j x hj _ hg => by rw [St.get_put_ne (fun e => hj e.symm)]; exact hg⟩
theorem BufOk.put {st : St} {u8 : TypeId} {a : AV} {out : List UInt8} {p : Nat} {T : TypeId} {cs cs' : List AV} (h : BufOk st u8 a out) (hp : st.get p = .ok (.cells T cs)) : BufOk (st.put p (.cells T cs')) u8 a out := by
  rcases h with h | ⟨k, h1, h2, h3, h4⟩
  · exact .inl h
  · refine .inr ⟨k, h1, ?_, h3, h4⟩
    have : p ≠ k := by rintro rfl; rw [hp] at h2; cases h2
    rw [St.get_put_ne this]; exact h2
theorem ofBytes_append (a b : List UInt8) : ofBytes (a ++ b) = ofBytes a ++ ofBytes b := List.map_append
theorem ofBytes_length (a : List UInt8) : (ofBytes a).length = a.length := List.length_map _
theorem strictBytes_of : ∀ (s : List UInt8), strictBytes (ofBytes s) = .ok s
  | [] => rfl
  | b :: l => by
    have ih := strictBytes_of l
    show (match b.toNat.blt 256 with | true => (do pure (UInt8.ofNat b.toNat :: (← strictBytes (ofBytes l))) : Res (List UInt8)) | false => .error "no byte") = _
    rw [blt_true.2 (UInt8.toNat_lt b), ih]
    show Except.ok (UInt8.ofNat b.toNat :: l) = _
    simp
section
variable {β : Type} {O : Orc}
theorem fitTs_bytes : ∀ (s : List UInt8) (K : List AV → Option β), fitTs false (ofBytes s) K = K (ofBytes s)
  | [], _ => rfl
  | b :: l, K => by
    show fit1 (.int .u8 b.toNat) (fun v' => fitTs false (ofBytes l) fun l' => K (v' :: l')) = _
    rw [fit1_int, fitTs_bytes l]; rfl
theorem sizes_bytes : ∀ (s : List UInt8), sizesOk 1 (ofBytes s) = true
  | [] => rfl
  | b :: l => by
    have := sizes_bytes l
    simp only [sizesOk, ofBytes, List.map_cons, List.all_cons] at this ⊢
    rw [this]; rfl
theorem nthAV_mid (pre post : List AV) (a : AV) : nthAV (pre ++ a :: post) pre.length = .ok a := by
  induction pre with
  | nil => rfl
  | cons v l ih => exact ih
theorem nthAV_mid1 (pre post : List AV) (a b : AV) : nthAV (pre ++ a :: b :: post) (pre.length + 1) = .ok b := by
  induction pre with
  | nil => rfl
  | cons v l ih => exact ih
theorem drop_mid1 (pre post : List AV) (a b : AV) : (pre ++ a :: b :: post).drop (pre.length + 1) = b :: post := by
  induction pre with
  | nil => rfl
  | cons v l ih => exact ih
theorem splice_mid (pre post : List AV) (a x : AV) : splice (pre ++ a :: post) pre.length [x] = pre ++ x :: post := by
  simp [splice, List.drop_append]
theorem splice_mid1 (pre post : List AV) (a b x : AV) : splice (pre ++ a :: b :: post) (pre.length + 1) [x] = pre ++ a :: x :: post := by
  have := splice_mid (pre ++ [a]) post b x
  simpa using this
theorem copyCheck_ok {st : St} {L : List (TypeId × Nat × Nat)} {T u8 : TypeId} {p : Nat} {pre post : List AV} {out : List UInt8} (h : IsB st T u8 p pre post out) (hl : lies L T (pre ++ .nilp :: .nils :: post).length pre.length = true) :
    ∃ st' a1, st'.get p = .ok (.cells T (pre ++ .mp p pre.length :: a1 :: post)) ∧ BufOk st' u8 a1 out ∧ st'.ro ≤ p ∧ KeepsB st st' u8 p ∧ st'.h = st.h ∧ ∃ fx, ∀ {β : Type} (K : Kv β), planS O (primP (.copyCheck L) [.mp p pre.length]) st K = K (.tup []) st' fx := by
  obtain ⟨a0, a1, h1, h2, h3, h4⟩ := h
  have hl' : lies L T (pre ++ a0 :: a1 :: post).length pre.length = true := by simpa using hl
  rcases h2 with rfl | rfl
  · refine ⟨st.put p (.cells T (pre ++ .mp p pre.length :: a1 :: post)), a1, St.get_put_same (St.get_ok.1 h1).1, h3.put h1, h4, KeepsB.put, rfl, ⟨[p], .wrote p (.cells T (pre ++ .mp p pre.length :: a1 :: post))⟩, fun K => ?_⟩
    simp only [planS, outS, primP, planO, h1, typedOf, ok_bind, hl', nthAV_mid, pure_eq, splice_mid, wroteO, Nat.ble_eq_true_of_le h4, bindO_ok]
  · refine ⟨st, a1, h1, h3, h4, KeepsB.refl _ _ _, rfl, ⟨[p], .kept⟩, fun K => ?_⟩
    simp only [planS, outS, primP, planO, h1, typedOf, ok_bind, hl', nthAV_mid, pure_eq, Nat.beq_refl, Bool.and_self, bindO_ok]
theorem bstring_ok {st : St} {T u8 : TypeId} {p : Nat} {pre post : List AV} {out : List UInt8} (h : IsB st T u8 p pre post out) (ho : out.length < 4611686018427387904) (K : Kv β) :
    ∃ fx, planS O (primP (.builderString u8) [.mp p pre.length]) st K = K (.str out) st fx := by
  obtain ⟨a0, a1, h1, h2, h3, h4⟩ := h
  rcases h3 with ⟨rfl, rfl⟩ | ⟨k, rfl, hk, hr, hn⟩
  · refine ⟨⟨[], .looked⟩, ?_⟩
    simp only [planS, outS, primP, planO, h1, cellsOf, ok_bind, nthAV_mid1, pure_eq, bindO_ok]
  · refine ⟨⟨[], .looked⟩, ?_⟩
    have e1 : (ofBytes out).isEmpty = false := by
      cases out with
      | nil => exact absurd rfl hn
      | cons b l => rfl
    have e2 : (Nat.beq u8 u8 && Nat.beq out.length (ofBytes out).length && !(ofBytes out).isEmpty && Nat.blt out.length 4611686018427387904) = true := by
      rw [ofBytes_length, e1, blt_true.2 ho, Nat.beq_refl, Nat.beq_refl]; rfl
    simp only [planS, outS, primP, planO, h1, cellsOf, ok_bind, nthAV_mid1, pure_eq, bindO_ok, Nat.ble_eq_true_of_le hr, hk, e2, strictBytes_of]
noncomputable def bWrite (O : Orc) (L : List (TypeId × Nat × Nat)) (u8 : TypeId) : AV → AV → St → Option (AV × St) := fun x0 x1 st => asS x1 fun l0 => planS O (primP (Prim.copyCheck L) [x0]) st fun _x st2 _x_1 => chk (notNil x0) (fldA 1 x0 fun v4 =>
  loadS 1 false v4 st2 fun v5 _x => fitTs false (ofBytes l0) fun l7 => chk (sizesOk 1 l7) (appS 1 1 u8 v5 l7 st2 fun v8 st9 _x => chk (notNil x0) (fldA 1 x0 fun v11 => asOne v8 (asOne v8 (storeS
  O 1 v11 v8 [v8] st9 fun _x st13 _x_2 => some (AV.tup [AV.int .i64 (↑(List.length l0) : Int), AV.nili], st13))))))
theorem app_buf {st : St} {u8 : TypeId} {a : AV} {out s : List UInt8} (h : BufOk st u8 a out) (hl : out.length + s.length ≤ 70368744177664) (hro : st.ro ≤ st.h) :
    ∃ v st', BufOk st' u8 v (out ++ s) ∧ one v = true ∧ st'.ro = st.ro ∧ st.h ≤ st'.h ∧ (∀ j o, (∀ n, o ≠ .tok n u8) → st.get j = .ok o → st'.get j = .ok o) ∧ ∃ fx, ∀ {β : Type} (K : Kv β), appS 1 1 u8 a (ofBytes s) st K = K v st' fx := by
  have room : ∀ n, n ≤ 70368744177664 → roomOk n ⟨.other, 1, 1, [], false, false⟩ = true := fun n hn => by
    simp only [roomOk, Nat.mul_one, Nat.ble_eq_true_of_le hn]; rfl
  cases s with
  | nil =>
    refine ⟨a, st, by simpa using h, ?_, rfl, Nat.le_refl _, fun _ _ _ h => h, q0, fun K => ?_⟩
    · rcases h with ⟨rfl, _⟩ | ⟨k, rfl, _⟩ <;> rfl
    · rcases h with ⟨rfl, rfl⟩ | ⟨k, rfl, hk, hr, hn⟩ <;> rfl
  | cons b s =>
    rcases h with ⟨rfl, rfl⟩ | ⟨k, rfl, hk, hr, hn⟩
    · have hr := room (ofBytes (b :: s)).length (by rw [ofBytes_length]; simpa using hl)
      refine ⟨.sl 1 (ofBytes (b :: s)) (.own st.h), st.add (.tok (ofBytes (b :: s)).length u8), .inr ⟨st.h, rfl, ?_, hro, by simp⟩, rfl, rfl, Nat.le_succ _, fun j o _ hg => St.get_add_old hg, ⟨[], .made st.h (.tok (ofBytes (b :: s)).length u8)⟩, fun K => ?_⟩
      · rw [ofBytes_length]; exact St.get_add_new
      · exact appS_of (by simp only [ofBytes, List.map_cons] at hr ⊢; simp only [appO, hr]; rfl) K
    · have hr2 := room ((ofBytes out).length + (ofBytes (b :: s)).length) (by rw [ofBytes_length, ofBytes_length]; exact hl)
      refine ⟨.sl 1 (ofBytes (out ++ b :: s)) (.own k), st.put k (.tok ((ofBytes out).length + (ofBytes (b :: s)).length) u8), .inr ⟨k, rfl, ?_, hr, by simp⟩, rfl, rfl, Nat.le_refl _, fun j o ho hg => ?_, ⟨[k], .wrote k (.tok ((ofBytes out).length + (ofBytes (b :: s)).length) u8)⟩, fun K => ?_⟩
      · rw [St.get_put_same (St.get_ok.1 hk).1, ofBytes_length, ofBytes_length, List.length_append]
      · have : k ≠ j := by rintro rfl; rw [hk] at hg; cases hg; exact ho _ rfl
        rw [St.get_put_ne this]; exact hg
      · have e1 : (Nat.beq out.length (ofBytes out).length && Nat.beq u8 u8) = true := by rw [ofBytes_length, Nat.beq_refl, Nat.beq_refl]; rfl
        have e2 : Nat.beq 1 1 = true := rfl
        refine appS_of ?_ K
        rw [ofBytes_append]
        simp only [ofBytes, List.map_cons] at hr2 e1 ⊢
        simp only [appO, hr2, e2, Bool.and_self, hk, e1, wroteO, Nat.ble_eq_true_of_le hr]
theorem bWrite_ok {st : St} {L : List (TypeId × Nat × Nat)} {T u8 : TypeId} {p : Nat} {pre post : List AV} {out s : List UInt8} (h : IsB st T u8 p pre post out) (hl : lies L T (pre ++ .nilp :: .nils :: post).length pre.length = true)
    (hlen : out.length + s.length ≤ 70368744177664) (hro : st.ro ≤ st.h) :
    ∃ st', bWrite O L u8 (.mp p pre.length) (.str s) st = some (.tup [.int .i64 (s.length : Int), .nili], st') ∧ IsB st' T u8 p pre post (out ++ s) ∧ KeepsB st st' u8 p := by
  obtain ⟨st2, a1, h1, h2, h3, h4, hh, fx, hcc⟩ := copyCheck_ok (O := O) h hl
  obtain ⟨v, st3, b1, b2, b3, b4, b5, fx2, happ⟩ := app_buf (s := s) h2 hlen (by rw [h4.ro, hh]; exact hro)
  have hp3 := b5 p _ (by intro n; simp) h1
  have hst := fun (K : Kv (AV × St)) => storeS_at (O := O) (z := 1) (v := v) (cs := [v]) (off := pre.length + 1) hp3 rfl (by simp; omega) (by rw [b3]; exact h3) K
  refine ⟨st3.put p (.cells T (pre ++ .mp p pre.length :: v :: post)), ?_, ⟨_, v, St.get_put_same (St.get_ok.1 hp3).1, .inr rfl, b1.put hp3, by show st3.ro ≤ p; rw [b3]; exact h3⟩, ?_⟩
  · simp only [bWrite, asS_str, hcc, notNil, chk_true, fldA_mp, loadS_mp h1, drop_mid1, takeO_one, bindO_ok, fitTs_bytes, sizes_bytes, happ, asOne_of b2, hst, splice_mid1]
  · exact h4.trans ⟨b3, b4, fun j o hj ho hg => by
      rw [St.get_put_ne (fun e => hj e.symm)]; exact b5 j o ho hg⟩
end
end Go.VM
