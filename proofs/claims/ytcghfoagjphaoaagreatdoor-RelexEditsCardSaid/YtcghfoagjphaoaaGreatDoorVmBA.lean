/-
  A part of the proof.
-/
import Derived.Test.YtcghfoagjphaoaaGreatDoorVmAJ
/- Combinators of shallow forms: only what is asked next is looked at; slices as lists of data; loops by what holds at each head; what is frozen. -/
namespace Go.VM
open Go
section
variable {β α : Type}
@[congr] theorem letV_congr {a a' : α} {K : α → Option β} (h : a = a') : letV a K = letV a' K := by rw [h]
@[congr] theorem asI_congr {k : IntKind} {v v' : AV} {K : Int → Option β} (h : v = v') : asI k v K = asI k v' K := by rw [h]
@[congr] theorem asB_congr {v v' : AV} {K : Bool → Option β} (h : v = v') : asB v K = asB v' K := by rw [h]
@[congr] theorem asS_congr {v v' : AV} {K : List UInt8 → Option β} (h : v = v') : asS v K = asS v' K := by rw [h]
@[congr] theorem anyI_congr {v v' : AV} {K : Int → Option β} (h : v = v') : anyI v K = anyI v' K := by rw [h]
@[congr] theorem unA_congr {v v' : AV} {K : List AV → Option β} (h : v = v') : unA v K = unA v' K := by rw [h]
@[congr] theorem unT_congr {v v' : AV} {K : List AV → Option β} (h : v = v') : unT v K = unT v' K := by rw [h]
@[congr] theorem unc_congr {v v' : List AV} {K : AV → List AV → Option β} (h : v = v') : unc v K = unc v' K := by rw [h]
@[congr] theorem un0_congr {v v' : List AV} {K : Option β} (h : v = v') : un0 v K = un0 v' K := by rw [h]
@[congr] theorem chk_congr {v v' : Bool} {K : Option β} (h : v = v') : chk v K = chk v' K := by rw [h]
@[congr] theorem ifB_congr {v v' : Bool} {x y : Option β} (h : v = v') : ifB v x y = ifB v' x y := by rw [h]
@[congr] theorem bindO_congr {v v' : Option α} {K : α → Option β} (h : v = v') : bindO v K = bindO v' K := by rw [h]
@[congr] theorem onSum_congr {v v' : Sum α β} {K : α → Option β} (h : v = v') : onSum v K = onSum v' K := by rw [h]
@[congr] theorem sel2_congr {n n' : Nat} {a : Option β} {b : Nat → Option β} (h : n = n') : sel2 n a b = sel2 n' a b := by rw [h]
@[congr] theorem asOne_congr {v v' : AV} {K : Option β} (h : v = v') : asOne v K = asOne v' K := by rw [h]
@[congr] theorem nthS_congr {l l' : List AV} {n : Nat} {K : AV → Option β} (h : l = l') : nthS l n K = nthS l' n K := by rw [h]
@[congr] theorem fldA_congr {o : Nat} {v v' : AV} {K : AV → Option β} (h : v = v') : fldA o v K = fldA o v' K := by rw [h]
@[congr] theorem loadS_congr {z : Nat} {g : Bool} {v v' : AV} {st st' : St} {K : AV → List Nat → Option β} (h : v = v') (h' : st = st') : loadS z g v st K = loadS z g v' st' K := by rw [h, h']
@[congr] theorem fit1_congr {v v' : AV} {K : AV → Option β} (h : v = v') : fit1 v K = fit1 v' K := by rw [h]
@[congr] theorem nnil_congr {v v' : AV} {K : Option β} (h : v = v') : nnil v K = nnil v' K := by rw [h]
@[congr] theorem lenS_congr {v v' : AV} {K : Nat → Option β} (h : v = v') : lenS v K = lenS v' K := by rw [h]
@[congr] theorem elemsS_congr {v v' : AV} {K : List AV → Option β} (h : v = v') : elemsS v K = elemsS v' K := by rw [h]
@[congr] theorem idxA_congr {z : Nat} {v v' : AV} {i i' : Int} {st st' : St} {K : AV → List Nat → Option β} (h : v = v') (h1 : i = i') (h2 : st = st') : idxA z v i st K = idxA z v' i' st' K := by rw [h, h1, h2]
@[congr] theorem idxStr_congr {v v' : List UInt8} {i i' : Int} {K : UInt8 → Option β} (h : v = v') (h1 : i = i') : idxStr v i K = idxStr v' i' K := by rw [h, h1]
@[congr] theorem insideS_congr {i i' : Int} {n n' : Nat} {K : Nat → Option β} (h : i = i') (h1 : n = n') : insideS i n K = insideS i' n' K := by rw [h, h1]
@[congr] theorem uptoS_congr {i i' : Int} {n n' : Nat} {K : Nat → Option β} (h : i = i') (h1 : n = n') : uptoS i n K = uptoS i' n' K := by rw [h, h1]
@[congr] theorem sliceS_congr {z : Nat} {v v' : AV} {a a' b b' c c' : Option Int} {K : AV → Option β} (h : v = v') (h1 : a = a') (h2 : b = b') (h3 : c = c') : sliceS z v a b c K = sliceS z v' a' b' c' K := by rw [h, h1, h2, h3]
@[congr] theorem appS_congr {z b : Nat} {e : TypeId} {v v' : AV} {n n' : List AV} {st st' : St} {K : Kv β} (h : v = v') (h1 : n = n') (h2 : st = st') : appS z b e v n st K = appS z b e v' n' st' K := by rw [h, h1, h2]
@[congr] theorem fitTs_congr {g : Bool} {l l' : List AV} {K : List AV → Option β} (h : l = l') : fitTs g l K = fitTs g l' K := by rw [h]
@[congr] theorem callS_congr {O : Orc} {f : FuncId} {l l' : List AV} {st st' : St} {K : Kv β} (h : l = l') (h1 : st = st') : callS O f l st K = callS O f l' st' K := by rw [h, h1]
@[congr] theorem planS_congr {O : Orc} {p p' : Res Plan} {st st' : St} {K : Kv β} (h : p = p') (h1 : st = st') : planS O p st K = planS O p' st' K := by rw [h, h1]
@[congr] theorem callF_congr {O : Orc} {pr : FuncId → Option Prim} {f f' : AV} {l l' : List AV} {st st' : St} {K : Kv β} (h0 : f = f') (h : l = l') (h1 : st = st') : callF O pr f l st K = callF O pr f' l' st' K := by rw [h0, h, h1]
@[congr] theorem storeS_congr {O : Orc} {z : Nat} {a a' v v' : AV} {l l' : List AV} {st st' : St} {K : Kv β} (h0 : a = a') (h2 : v = v') (h : l = l') (h1 : st = st') : storeS O z a v l st K = storeS O z a' v' l' st' K := by rw [h0, h2, h, h1]
@[congr] theorem frzS_congr {st st' : St} {b : Nat} {v v' : AV} {K : AV → Option β} (h1 : st = st') (h : v = v') : frzS st b v K = frzS st' b v' K := by rw [h1, h]
@[congr] theorem made_congr {st st' : St} {o o' : Obj} {f : Nat → AV} {K : Kv β} (h1 : st = st') (h : o = o') : made st o f K = made st' o' f K := by rw [h1, h]
@[congr] theorem nilS_congr {u : U} {v v' w w' : AV} {K : Bool → Option β} (h : v = v') (h1 : w = w') : nilS u v w K = nilS u v' w' K := by rw [h, h1]
@[congr] theorem letSt_congr {a a' : St} {K : St → Option β} (h : a = a') : letSt a K = letSt a' K := by rw [h]
@[simp] theorem letSt_eq (a : St) (K : St → Option β) : letSt a K = K a := id rfl
end
theorem loopO_inl {σ β : Type} {F : σ → Option (Sum σ β)} {s s' : σ} (h : F s = some (.inl s')) : loopO F s = loopO F s' := by rw [loopO_eq, h]
theorem loopO_inr {σ β : Type} {F : σ → Option (Sum σ β)} {s : σ} {r : β} (h : F s = some (.inr r)) : loopO F s = some r := by rw [loopO_eq, h]
/-- What freezing leaves as it is. -/
def Fz (d : Nat) (v : AV) : Prop := ∀ st base n, d ≤ n → freeze st base n v = .ok v
theorem Fz.mono {d e : Nat} {v : AV} (h : Fz d v) (hd : d ≤ e) : Fz e v := fun st base n hn => h st base n (Nat.le_trans hd hn)
theorem fz_int (k : IntKind) (m : Int) : Fz 1 (.int k m) := fun _ _ n hn => by cases n with | zero => omega | succ n => rfl
theorem fz_str (s : List UInt8) : Fz 1 (.str s) := fun _ _ n hn => by cases n with | zero => omega | succ n => rfl
theorem fz_nils : Fz 1 .nils := fun _ _ n hn => by cases n with | zero => omega | succ n => rfl
theorem fz_es : Fz 1 .es := fun _ _ n hn => by cases n with | zero => omega | succ n => rfl
theorem fz_wide (z : Nat) (es : List AV) : Fz 1 (.sl z es .wide) := fun _ _ n hn => by cases n with | zero => omega | succ n => rfl
theorem fz_shut (z : Nat) (es : List AV) : Fz 1 (.sl z es .shut) := fun _ _ n hn => by cases n with | zero => omega | succ n => rfl
theorem fz_sl {z : Nat} {x : AV} {es : List AV} (h : IsSl z x es) : Fz 1 x := by
  rcases h.2 with ⟨rfl | rfl, rfl⟩ | rfl | rfl
  · exact fz_nils
  · exact fz_es
  · exact fz_shut _ _
  · exact fz_wide _ _
theorem allE_fz {st : St} {base n d : Nat} (hn : d ≤ n) : ∀ {cs : List AV}, (∀ c ∈ cs, Fz d c) → allE (freeze st base n) cs = .ok cs
  | [], _ => rfl
  | c :: cs, h => by
    have h1 := h c (by simp) st base n hn
    have h2 := allE_fz (st := st) (base := base) hn fun c hc => h c (List.mem_cons_of_mem _ hc)
    simp only [allE, h1, h2, ok_bind, pure_eq]
theorem frz_of {β : Type} {d : Nat} {v : AV} (h : Fz d v) (hd : d ≤ 100) (hb : bare v = true) (st : St) (base : Nat) (K : AV → Option β) : frzS st base v K = K v := by
  simp only [frzS, h st base 100 hd, hb, chk_true]
theorem storeS_at {β : Type} {O : Orc} {st : St} {id off : Nat} {t : TypeId} {old : List AV} {z : Nat} {v : AV} {cs : List AV} (hg : st.get id = .ok (.cells t old)) (hz : cs.length = z) (hl : off + cs.length ≤ old.length) (hro : st.ro ≤ id) (K : Kv β) :
    storeS O z (.mp id off) v cs st K = K undef (st.put id (.cells t (splice old off cs))) ⟨[id], .wrote id (.cells t (splice old off cs))⟩ := by
  have h1 : cs.length.beq z = true := by rw [hz]; exact Nat.beq_refl z
  simp only [storeS, outS, storeO, h1, hg, Nat.ble_eq_true_of_le hl, wroteO, Nat.ble_eq_true_of_le hro, bindO_ok, splS]
theorem splice_all {old cs : List AV} (h : cs.length = old.length) : splice old 0 cs = cs := by
  simp only [splice, List.take_zero, List.nil_append, Nat.zero_add]
  rw [h, List.drop_length, List.append_nil]
/-- A local variable in a cell of its own, written at once. -/
theorem local_var {O : Orc} {st : St} {t : TypeId} {z : Nat} {old cs : List AV} (v : AV) (hl : old.length = z) (hc : cs.length = z) (hro : st.ro ≤ st.h) :
    ∃ st', st'.get st.h = .ok (.cells t cs) ∧ Keeps st st' (fun _ => False) ∧ st'.h = st.h + 1 ∧ ∃ fx, ∀ {β : Type} (K : Kv β), storeS O z (.mp st.h 0) v cs (st.add (.cells t old)) K = K undef st' fx := by
  have hg : (st.add (.cells t old)).get st.h = .ok (.cells t old) := St.get_add_new
  refine ⟨(st.add (.cells t old)).put st.h (.cells t cs), St.get_put_same (Nat.lt_succ_self _), ⟨rfl, Nat.le_succ _, fun j o _ hj => ?_⟩, rfl, ⟨[st.h], .wrote st.h (.cells t (splice old 0 cs))⟩, fun K => ?_⟩
  · have hlt := (St.get_ok.1 hj).1
    rw [St.get_put_ne (by omega)]
    exact St.get_add_old hj
  · rw [storeS_at hg hc (by omega) hro]
    rw [splice_all (by omega)]
theorem IsSl.cut {z : Nat} {x : AV} {es : List AV} (h : IsSl z x es) {lo hi : Option Int} {l m : Nat} (hl : hiO lo m 0 = some l) (hh : hiO hi es.length es.length = some m) :
    ∃ x', IsSl z x' ((es.take m).drop l) ∧ ∀ {β : Type} (K : AV → Option β), sliceS z x lo hi none K = K x' := by
  obtain ⟨x', hx, e⟩ := h.slice hl hh (some : AV → Option AV)
  refine ⟨x', hx, fun K => ?_⟩
  have e : bindO (sliceO z x lo hi none) some = some x' := e
  show bindO (sliceO z x lo hi none) K = _
  cases hs : sliceO z x lo hi none with
  | none => rw [hs] at e; cases e
  | some u => rw [hs] at e; cases e; rfl
@[simp] theorem apart_kept (r : List Nat) : apart ⟨r, .kept⟩ q0 = true := id rfl
@[simp] theorem apart_kept2 (r : List Nat) : apart q0 ⟨r, .kept⟩ = true := id rfl
end Go.VM
/- strings.Builder: what is written, and what it holds. -/
namespace Go.VM
open Go
/-- A builder's buffer. -/
def BufOk (st : St) (u8 : TypeId) (a : AV) (out : List UInt8) : Prop := (a = .nils ∧ out = []) ∨ ∃ k, a = .sl 1 (ofBytes out) (.own k) ∧ st.get k = .ok (.tok out.length u8) ∧ st.ro ≤ k ∧ out ≠ []
/-- A builder among other cells. -/
def IsB (st : St) (T u8 : TypeId) (p : Nat) (pre post : List AV) (out : List UInt8) : Prop :=
  ∃ a0 a1, st.get p = .ok (.cells T (pre ++ a0 :: a1 :: post)) ∧ (a0 = .nilp ∨ a0 = .mp p pre.length) ∧ BufOk st u8 a1 out ∧ st.ro ≤ p
/-- What else there is stays, but for owners of bytes. -/
structure KeepsB (st st' : St) (u8 : TypeId) (p : Nat) : Prop where
  ro : st'.ro = st.ro
  h : st.h ≤ st'.h
  old : ∀ j o, j ≠ p → (∀ n, o ≠ .tok n u8) → st.get j = .ok o → st'.get j = .ok o
theorem KeepsB.refl (st : St) (u8 : TypeId) (p : Nat) : KeepsB st st u8 p := ⟨rfl, Nat.le_refl _, fun _ _ _ _ h => h⟩
theorem KeepsB.trans {a b c : St} {u8 : TypeId} {p : Nat} (h : KeepsB a b u8 p) (k : KeepsB b c u8 p) : KeepsB a c u8 p :=
  ⟨k.ro.trans h.ro, Nat.le_trans h.h k.h, fun j o hj ho hg => k.old j o hj ho (h.old j o hj ho hg)⟩
theorem KeepsB.put {st : St} {u8 : TypeId} {p : Nat} {o : Obj} : KeepsB st (st.put p o) u8 p := ⟨rfl, Nat.le_refl _, fun j x hj _ hg => by rw [St.get_put_ne (fun e => hj e.symm)]; exact hg⟩
theorem IsB.keep {st st' : St} {T u8 : TypeId} {p : Nat} {pre post : List AV} {out : List UInt8} (h : IsB st T u8 p pre post out) (k : Keeps st st' fun _ => False) : IsB st' T u8 p pre post out := by
  obtain ⟨a0, a1, h1, h2, h3, h4⟩ := h
  refine ⟨a0, a1, k.old _ _ (fun h => h) h1, h2, ?_, by rw [k.ro]; exact h4⟩
  rcases h3 with h3 | ⟨j, e, hj, hr, hn⟩
  · exact .inl h3
  · exact .inr ⟨j, e, k.old _ _ (fun h => h) hj, by rw [k.ro]; exact hr, hn⟩
theorem BufOk.put {st : St} {u8 : TypeId} {a : AV} {out : List UInt8} {p : Nat} {T : TypeId} {cs cs' : List AV} (h : BufOk st u8 a out) (hp : st.get p = .ok (.cells T cs)) : BufOk (st.put p (.cells T cs')) u8 a out := by
  rcases h with h | ⟨k, h1, h2, h3, h4⟩
  · exact .inl h
  · refine .inr ⟨k, h1, ?_, h3, h4⟩
    have : p ≠ k := by rintro rfl; rw [hp] at h2; cases h2
    rw [St.get_put_ne this]; exact h2
section
variable {β : Type} {O : Orc}
end
end Go.VM
