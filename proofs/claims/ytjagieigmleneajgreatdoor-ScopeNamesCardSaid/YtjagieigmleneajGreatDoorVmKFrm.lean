/- The fast machine's frames hold what the machine's frames hold. -/
import Derived.Test.YtjagieigmleneajGreatDoorVmKDef
import Derived.Test.YtjagieigmleneajGreatDoorVmTable
namespace Go.VM
theorem t_blt {a b : Nat} (h : a.blt b = true) : a < b := by rwa [Nat.blt_eq] at h
theorem blt_t {a b : Nat} (h : a < b) : a.blt b = true := by rwa [Nat.blt_eq]

theorem N16.sel_g {α : Type} (n : N16 α) : ∀ i, i < 16 → (n.list)[i]? = some ((N16.sel i).g n)
  | 0, _ => rfl
  | 1, _ => rfl
  | 2, _ => rfl
  | 3, _ => rfl
  | 4, _ => rfl
  | 5, _ => rfl
  | 6, _ => rfl
  | 7, _ => rfl
  | 8, _ => rfl
  | 9, _ => rfl
  | 10, _ => rfl
  | 11, _ => rfl
  | 12, _ => rfl
  | 13, _ => rfl
  | 14, _ => rfl
  | 15, _ => rfl
  | i + 16, h => by omega
theorem N16.sel_p {α : Type} (n : N16 α) (x : α) : ∀ i, i < 16 → ((N16.sel i).p n x).list = n.list.set i x
  | 0, _ => rfl
  | 1, _ => rfl
  | 2, _ => rfl
  | 3, _ => rfl
  | 4, _ => rfl
  | 5, _ => rfl
  | 6, _ => rfl
  | 7, _ => rfl
  | 8, _ => rfl
  | 9, _ => rfl
  | 10, _ => rfl
  | 11, _ => rfl
  | 12, _ => rfl
  | 13, _ => rfl
  | 14, _ => rfl
  | 15, _ => rfl
  | i + 16, h => by omega
theorem N4.sel_g {α : Type} (n : N4 α) : ∀ i, i < 4 → (n.list)[i]? = some ((N4.sel i).g n)
  | 0, _ => rfl
  | 1, _ => rfl
  | 2, _ => rfl
  | 3, _ => rfl
  | i + 4, h => by omega
theorem N4.sel_p {α : Type} (n : N4 α) (x : α) : ∀ i, i < 4 → ((N4.sel i).p n x).list = n.list.set i x
  | 0, _ => rfl
  | 1, _ => rfl
  | 2, _ => rfl
  | 3, _ => rfl
  | i + 4, h => by omega

theorem N16.list_len {α : Type} (n : N16 α) : n.list.length = 16 := rfl
theorem N4.list_len {α : Type} (n : N4 α) : n.list.length = 4 := rfl
theorem N16.get {α : Type} (n : N16 α) (x : α) {i j : Nat} (hi : i < 16) (hj : j < 16) : (N16.sel j).g ((N16.sel i).p n x) = if i = j then x else (N16.sel j).g n := by
  have h := N16.sel_g ((N16.sel i).p n x) j hj
  rw [N16.sel_p n x i hi, List.getElem?_set] at h
  have h' := N16.sel_g n j hj
  split
  · rename_i e
    rw [if_pos e, if_pos (by rw [N16.list_len]; omega)] at h
    exact (Option.some.inj h).symm
  · rename_i e
    rw [if_neg e, h'] at h
    exact (Option.some.inj h).symm
theorem N4.get {α : Type} (n : N4 α) (x : α) {i j : Nat} (hi : i < 4) (hj : j < 4) : (N4.sel j).g ((N4.sel i).p n x) = if i = j then x else (N4.sel j).g n := by
  have h := N4.sel_g ((N4.sel i).p n x) j hj
  rw [N4.sel_p n x i hi, List.getElem?_set] at h
  have h' := N4.sel_g n j hj
  split
  · rename_i e
    rw [if_pos e, if_pos (by rw [N4.list_len]; omega)] at h
    exact (Option.some.inj h).symm
  · rename_i e
    rw [if_neg e, h'] at h
    exact (Option.some.inj h).symm
theorem getP_pl (n : Nat) (t : Frm) : getP (pl n) t = (N16.sel (n % 16)).g ((N16.sel (n / 16 % 16)).g ((N4.sel (n / 256)).g t)) := rfl
theorem putP_pl (n : Nat) (t : Frm) (v : AV) : putP (pl n) t v = (N4.sel (n / 256)).p t ((N16.sel (n / 16 % 16)).p ((N4.sel (n / 256)).g t) ((N16.sel (n % 16)).p ((N16.sel (n / 16 % 16)).g ((N4.sel (n / 256)).g t)) v)) := rfl
theorem kget_put (t : Frm) {m : Nat} (v : AV) (n : Nat) (hm : m < 1000) : kget (putP (pl m) t v) n = if m = n then v else kget t n := by
  unfold kget
  cases hn : n.blt 1000 with
  | false =>
    have : ¬ n < 1000 := fun h => by rw [blt_t h] at hn; cases hn
    rw [if_neg (by omega)]
  | true =>
    have hn : n < 1000 := t_blt hn
    simp only [getP_pl, putP_pl]
    rw [N4.get _ _ (by omega) (by omega)]
    by_cases h1 : m / 256 = n / 256
    · rw [if_pos h1, N16.get _ _ (by omega) (by omega)]
      by_cases h2 : m / 16 % 16 = n / 16 % 16
      · rw [if_pos h2, N16.get _ _ (by omega) (by omega)]
        by_cases h3 : m % 16 = n % 16
        · rw [if_pos h3, if_pos (by omega)]
        · rw [if_neg h3, if_neg (by omega), h1, h2]
      · rw [if_neg h2, if_neg (by omega), h1]
    · rw [if_neg h1, if_neg (by omega)]
theorem sel_nil {α : Type} (x : α) : ∀ i, (N16.sel i).g (nil16 x) = x := by
  intro i
  unfold N16.sel
  split <;> rfl
theorem kget_nil (n : Nat) : kget nilF n = undef := by
  unfold kget
  cases hn : n.blt 1000 with
  | false => rfl
  | true =>
    dsimp only
    rw [getP_pl]
    have h4 : ∀ i, (N4.sel i).g nilF = nil16 (nil16 undef) := by
      intro i; unfold N4.sel; split <;> rfl
    rw [h4, sel_nil, sel_nil]
theorem trOf_get : ∀ (d : Nat) (f : Nat → AV) (i : Nat), (trOf d f).get i = if i + 1 < 2 ^ d then some (f i) else none
  | 0, f, i => by rw [trOf, Tr.get_leaf, if_neg (by simp)]
  | d + 1, f, i => by
    rw [trOf, Tr.get_node]
    have e : 2 ^ (d + 1) = 2 * 2 ^ d := by rw [Nat.pow_succ]; omega
    have p : 0 < 2 ^ d := Nat.two_pow_pos d
    split
    · rename_i h; subst h
      rw [if_pos (by omega)]
    · split
      · rename_i h0 h1
        rw [trOf_get d]
        split
        · rw [if_pos (by omega), show 2 * (i / 2) + 1 = i by omega]
        · rw [if_neg (by omega)]
      · rename_i h0 h1
        rw [trOf_get d]
        split
        · rw [if_pos (by omega), show 2 * (i / 2 - 1) + 2 = i by omega]
        · rw [if_neg (by omega)]
theorem toFr_get (n : Nat) (t : Frm) (i : Nat) : (toFr n t).get i = kget t i := by
  unfold Fr.get toFr
  dsimp only
  rw [trOf_get]
  split
  · rfl
  · rename_i h
    have : ¬ i < 1000 := fun h' => h (by rw [show (2 : Nat) ^ 10 = 1024 from rfl]; omega)
    unfold kget
    cases hn : i.blt 1000 with
    | false => rfl
    | true => exact absurd (t_blt hn) this

/-- A frame, and a fast one. -/
structure FR (fr : Fr) (m : Nat) (t : Frm) : Prop where
  n : fr.n = m
  le : m < 1000
  get : ∀ i, fr.get i = kget t i
theorem FR.toFr {n : Nat} {t : Frm} (h : n < 1000) : FR (toFr n t) n t := ⟨rfl, h, toFr_get n t⟩
theorem FR.put {fr : Fr} {n : Nat} {t : Frm} (h : FR fr n t) (d : Option Tmp) (v : AV) : FR (fr.put d v) n (putD (trD n d) t v) := by
  cases d with
  | none => exact h
  | some d =>
    unfold Fr.put trD
    rw [h.n]
    dsimp only
    cases hd : d.blt n with
    | false => exact h
    | true =>
      have hd := t_blt hd
      dsimp only
      show FR ⟨n, fr.t.put d v⟩ n (putP (pl d) t v)
      refine ⟨rfl, h.le, fun i => ?_⟩
      show Fr.get ⟨n, fr.t.put d v⟩ i = kget (putP (pl d) t v) i
      rw [kget_put t v i (by have := h.le; omega)]
      unfold Fr.get
      dsimp only
      rw [Tr.get_put]
      split
      · rfl
      · have := h.get i
        unfold Fr.get at this
        exact this
/-- Frames that hold the same. -/
def Alike (a b : Fr) : Prop := a.n = b.n ∧ ∀ i, a.get i = b.get i
theorem FR.alike {a b : Fr} {n : Nat} {t : Frm} (h : FR a n t) (h' : FR b n t) : Alike a b := ⟨h.n.trans h'.n.symm, fun i => (h.get i).trans (h'.get i).symm⟩
theorem evalO_alike {G : Nat → Option (List AV)} {a b : Fr} (h : Alike a b) : evalO G a = evalO G b := by
  funext x
  cases x <;> simp only [evalO, h.2]
theorem evalL_alike {G : Nat → Option (List AV)} {a b : Fr} (h : Alike a b) : evalL G a = evalL G b := by
  funext l
  induction l with
  | nil => rfl
  | cons x l ih => simp only [evalL, evalO_alike h, ih]
theorem evalOpt_alike {G : Nat → Option (List AV)} {a b : Fr} (h : Alike a b) : evalOpt G a = evalOpt G b := by
  funext x
  cases x <;> simp only [evalOpt, evalO_alike h]
theorem evalParts_alike {G : Nat → Option (List AV)} {a b : Fr} (h : Alike a b) : evalParts G a = evalParts G b := by
  funext l
  induction l with
  | nil => rfl
  | cons x l ih => obtain ⟨i, x⟩ := x; simp only [evalParts, evalO_alike h, ih]
theorem plan_alike {T : TT} {p : FuncId → Option Prim} {m : TypeId → Bool} {G : Nat → Option (List AV)} {a b : Fr} (h : Alike a b) (o : Op) : plan T p m G a o = plan T p m G b o := by
  unfold plan
  rw [evalO_alike h, evalL_alike h, evalOpt_alike h, evalParts_alike h]
theorem wanted_alike {all : List Oper} {a b : Fr} (h : Alike a b) (g : Option (Nat × Bool)) : wanted all a g = wanted all b g := by
  unfold wanted
  simp only [h.2]
theorem oper_alike {X : Cx} {all : List Oper} {a b : Fr} (h : Alike a b) (st : St) (o : Oper) : oper X all a st o = oper X all b st o := by
  unfold oper
  rw [wanted_alike h, plan_alike h]
theorem resultOf_alike {T : TT} {a b : Fr} (h : Alike a b) (st : St) (r : ResultVar) : resultOf T a st r = resultOf T b st r := by
  cases r <;> simp only [resultOf, h.2]
theorem FR.start (n : Nat) (h : n < 1000) : FR ⟨n, .leaf⟩ n nilF := ⟨rfl, h, fun i => by rw [kget_nil]; unfold Fr.get; dsimp only; rw [Tr.get_leaf]; rfl⟩
theorem FR.args {n : Nat} : ∀ (args : List AV) (i : Nat) (t : Tr AV) (f : Frm), FR ⟨n, t⟩ n f → i + args.length ≤ n → FR ⟨n, putAll i args t⟩ n (putAllK i args f)
  | [], _, _, _, h, _ => h
  | v :: l, i, t, f, h, hl => by
    simp only [List.length_cons] at hl
    refine FR.args l (i + 1) (t.put i v) (putP (pl i) f v) ⟨rfl, h.le, fun j => ?_⟩ (by omega)
    rw [kget_put f v j (by have := h.le; omega)]
    have := h.get j
    unfold Fr.get at this ⊢
    dsimp only at this ⊢
    rw [Tr.get_put]
    split
    · rfl
    · exact this
end Go.VM
