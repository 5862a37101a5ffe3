/-
  A part of the proof.
-/
import Derived.Test.YtlfilkniobkbiaaDoorVmBE
import Derived.Lib.SlTrimSet
import Derived.Lib.Join
import Derived.Lib.ItoaNum
set_option linter.unusedSimpArgs false
/- strings.Trim, strings.Join, strconv.Itoa, by their contracts. -/
namespace Go.VM
open Go.RowKit
section
variable {P : Program} {T : TT} {G : Nat → Option (List AV)} {A : Nat → Prop} {g : Gh} {st : St} {w : World}
def libTrim : List AV → Res AV
  | [.str s, .str c] => match c.length.blt 4294967281 && c.all (fun b => b.toNat.blt 128) && s.length.ble 9223372036854775807 with
    | true => .ok (.str (Lib.trimS s c))
    | false => .error "Trim: no ASCII"
  | _ => .error "Trim"
theorem trim_prim {f : FuncId} (hcall : ∀ args w, (callFunc f args).run P w = .ok (.enter f args) w)
    (h : ∀ (s c : ByteArray) (w : World), s.size ≤ 9223372036854775807 → c.size < 4294967281 → (∀ (j : Nat) b, c.data.toList[j]? = some b → b.toNat < 128) → Calls P f #[.string s, .string c] w fun e w' => e = .returned (.string ⟨(Lib.trimS s.data.toList c.data.toList).toArray⟩) ∧ Below w.heap.size w w') : OnePrim P T G f (.lib libTrim) := by
  refine lib_prim hcall fun args v hF A g st w xs _ hx _ => ?_
  unfold libTrim at hF
  split at hF
  · rename_i s c
    split at hF
    · rename_i hk
      cases hF
      simp only [Bool.and_eq_true] at hk
      obtain ⟨x, y, rfl, h1, h2⟩ := RL2 hx
      rw [str_of h1, str_of h2]
      refine (h ⟨s.toArray⟩ ⟨c.toArray⟩ w (by simpa [ByteArray.size] using Nat.le_of_ble_eq_true hk.2) (by simpa [ByteArray.size] using blt_true.1 hk.1.1) fun j b hb => ?_).mono ?_
      · exact blt_true.1 (List.all_eq_true.1 hk.1.2 b (List.mem_of_getElem? (by simpa using hb)))
      · rintro e w' ⟨rfl, hB⟩
        exact ⟨⟨_, rfl, R_str _⟩, hB⟩
    · cases hF
  · cases hF
def libItoa : List AV → Res AV
  | [.int .i64 n] => match n with
    | .ofNat k => match k.blt 100 with
      | true => .ok (.str (Lib.decDigits k))
      | false => .error "Itoa: great"
    | .negSucc _ => .error "Itoa: below 0"
  | _ => .error "Itoa"
theorem itoa_prim {f : FuncId} (hcall : ∀ args w, (callFunc f args).run P w = .ok (.enter f args) w)
    (h : ∀ (i : Nat) (w : World), i < 100 → Calls P f #[.int .i64 i] w fun e w' => e = .returned (.string ⟨(Lib.decDigits i).toArray⟩) ∧ w' = w) : OnePrim P T G f (.lib libItoa) := by
  refine lib_prim hcall fun args v hF A g st w xs _ hx _ => ?_
  unfold libItoa at hF
  split at hF
  · rename_i n
    cases n with
    | ofNat k =>
      dsimp only at hF
      split at hF
      · rename_i hk
        cases hF
        obtain ⟨x, rfl, h1⟩ := RL1 hx
        rw [int_of h1]
        refine (h k w (blt_true.1 hk)).mono ?_
        rintro e w' ⟨rfl, rfl⟩
        exact ⟨⟨_, rfl, R_str _⟩, Below.refl _ _⟩
      · cases hF
    | negSucc k => cases hF
  · cases hF
def strsOf : List AV → Res (List (List UInt8))
  | [] => .ok []
  | .str s :: l => match strsOf l with
    | .ok r => .ok (s :: r)
    | .error e => .error e
  | _ :: _ => .error "strings"
theorem strsOf_eq : ∀ {l : List AV} {r : List (List UInt8)}, strsOf l = .ok r → l = r.map AV.str
  | [], r, h => by cases h; rfl
  | v :: l, r, h => by
    unfold strsOf at h
    split at h
    · rename_i heq; cases heq
    · rename_i s l' heq
      cases heq
      split at h
      · rename_i r' hr
        cases h
        rw [strsOf_eq hr]; rfl
      · cases h
    · cases h
def libJoin : List AV → Res AV
  | [.nils, .str _] => .ok (.str [])
  | [.sl 1 es _, .str sep] => match strsOf es with
    | .ok r => match (Lib.join r sep).length.ble 140737488355328 && r.length.ble 140737488355328 with
      | true => .ok (.str (Lib.join r sep))
      | false => .error "Join: long"
    | .error e => .error e
  | _ => .error "Join"
theorem join_prim {f : FuncId} (hcall : ∀ args w, (callFunc f args).run P w = .ok (.enter f args) w)
    (h0 : ∀ (a : Option Addr) (c : Nat) (sep : ByteArray) (w : World), Calls P f #[.slice a 0 c, .string sep] w fun e w' => e = .returned (.string ⟨#[]⟩) ∧ w' = w)
    (h : ∀ (bk o c : Nat) (xs : List ByteArray) (sep : ByteArray) (w : World), (∀ (j : Nat) x, xs[j]? = some x → w.cell? ⟨bk, o + j, none⟩ = some (.string x)) → bk < w.heap.size → xs.length ≤ 140737488355328 → xs.length ≤ c → (Lib.join (xs.map (·.data.toList)) sep.data.toList).length ≤ 140737488355328 →
      Calls P f #[.slice (some ⟨bk, o, none⟩) xs.length c, .string sep] w fun e w' => e = .returned (.string ⟨(Lib.join (xs.map (·.data.toList)) sep.data.toList).toArray⟩) ∧ Below w.heap.size w w') : OnePrim P T G f (.lib libJoin) := by
  refine lib_prim hcall fun args v hF A g st w xs _ hx hi => ?_
  unfold libJoin at hF
  split at hF
  · rename_i sep
    cases hF
    obtain ⟨x, y, rfl, h1, h2⟩ := RL2 hx
    simp only [R] at h1
    subst h1
    rw [str_of h2]
    refine (h0 none 0 _ w).mono ?_
    rintro e w' ⟨rfl, rfl⟩
    exact ⟨⟨_, rfl, R_str _⟩, Below.refl _ _⟩
  · rename_i es p sep
    split at hF
    · rename_i r hr
      have hes := strsOf_eq hr
      subst hes
      split at hF
      · rename_i hk
        cases hF
        simp only [Bool.and_eq_true] at hk
        have k1 := Nat.le_of_ble_eq_true hk.1
        have k2 := Nat.le_of_ble_eq_true hk.2
        obtain ⟨x, y, rfl, h1, h2⟩ := RL2 hx
        rw [str_of h2]
        simp only [R] at h1
        obtain ⟨_, b, o, cap, rfl, hcap, _, hat, _⟩ := h1
        rw [List.length_map] at hcap ⊢
        have cell : ∀ (l : List (List UInt8)) (o : Nat), RAtE g 1 (l.map AV.str) b o → ∀ (j : Nat) s, l[j]? = some s → w.cell? ⟨b, o + j, none⟩ = some (.string ⟨s.toArray⟩) := by
          intro l
          induction l with
          | nil => intro o _ j s hj; simp at hj
          | cons t l ih =>
            intro o ht j s hj
            rw [List.map_cons, RAtE_cons] at ht
            obtain ⟨_, h2, h3⟩ := ht
            cases j with
            | zero =>
              simp at hj; subst hj
              simp only [AV.cells, RAt] at h2
              obtain ⟨⟨x, q1, _, q3⟩, _⟩ := h2
              rw [str_of q3] at q1
              exact hi.F _ _ _ q1
            | succ j =>
              have := ih (o + 1) h3 j s (by simpa using hj)
              rw [show o + (j + 1) = o + 1 + j by omega]; exact this
        have hm : (r.map fun s => (⟨s.toArray⟩ : ByteArray)).map (·.data.toList) = r := by simp [Function.comp_def]
        by_cases hne : r = []
        · subst hne
          refine (h0 _ _ _ w).mono ?_
          rintro e w' ⟨rfl, rfl⟩
          exact ⟨⟨_, rfl, by simp only [R, Lib.join]; rfl⟩, Below.refl _ _⟩
        · obtain ⟨t, r', rfl⟩ := List.exists_cons_of_ne_nil hne
          have hb : b < w.heap.size := by
            have := cell _ o hat 0 t rfl
            obtain ⟨vs, ty, fz, h3, _⟩ := cells_of this
            exact lt_of_heap h3
          have := h b o cap ((t :: r').map fun s => (⟨s.toArray⟩ : ByteArray)) ⟨sep.toArray⟩ w (fun j x hj => by
            rw [List.getElem?_map, Option.map_eq_some_iff] at hj
            obtain ⟨s, q, rfl⟩ := hj
            exact cell _ o hat j s q) hb (by rw [List.length_map]; exact k2) (by rw [List.length_map]; exact hcap) (by rw [hm]; exact k1)
          rw [hm, List.length_map] at this
          refine this.mono ?_
          rintro e w' ⟨rfl, hB⟩
          exact ⟨⟨_, rfl, R_str _⟩, hB⟩
      · cases hF
    · cases hF
  · cases hF
end
end Go.VM
/- Types: what they are, whether they may be, their text; plain Lean. -/
namespace Go.Ty
open Go.VM
abbrev Tx := List UInt8
inductive Ty where
  | mk (nm : Tx) (l : List Ty)
  deriving Inhabited
def sInt : Tx := [105, 110, 116]
def sFloat : Tx := [102, 108, 111, 97, 116]
def sBool : Tx := [98, 111, 111, 108]
def sString : Tx := [115, 116, 114, 105, 110, 103]
def sUnit : Tx := [117, 110, 105, 116]
def sArrow : Tx := [45, 62]
def sTuple : Tx := [116, 117, 112, 108, 101]
def sList : Tx := [108, 105, 115, 116]
def idB (b : UInt8) : Bool := (97 ≤ b.toNat && b.toNat ≤ 122) || (48 ≤ b.toNat && b.toNat ≤ 57)
/-- A variable's name. -/
def varB (s : Tx) : Bool := (decide (2 ≤ s.length) && decide (s.length ≤ 65)) && (s.head? == some 39 && (s.drop 1).all idB)
mutual
def szT : Ty → Nat
  | .mk _ l => 1 + szTs l
def szTs : List Ty → Nat
  | [] => 0
  | t :: l => szT t + szTs l
end
theorem szTs_len : ∀ (l : List Ty), l.length ≤ szTs l
  | [] => Nat.le_refl _
  | .mk _ a :: l => by
    have := szTs_len l
    simp only [szTs, szT, List.length_cons]; omega
theorem szTs_app (a b : List Ty) : szTs (a ++ b) = szTs a + szTs b := by
  induction a with
  | nil => simp [szTs]
  | cons t l ih => simp only [List.cons_append, szTs, ih]; omega
def baseB (nm : Tx) : Bool := nm == sInt || (nm == sFloat || (nm == sBool || (nm == sString || nm == sUnit)))
def nameOk (nm : Tx) (n : Nat) : Bool :=
  cond (baseB nm) ((n : Int) == 0) (cond (nm == sArrow) ((n : Int) == 2) (cond (nm == sTuple) (decide ((n : Int) ≥ 2)) (cond (nm == sList) ((n : Int) == 1) ((n : Int) == 0 && varB nm))))
mutual
def formT : Ty → Bool
  | .mk nm l => nameOk nm l.length && formTs l
def formTs : List Ty → Bool
  | [] => true
  | t :: l => formT t && formTs l
end
def mayT (t : Ty) : Bool := decide (szT t ≤ 512) && formT t
mutual
/-- The variables, as they stand first, behind others. -/
def varsT (out : List Tx) : Ty → List Tx
  | .mk nm l => if varB nm = true then (if out.contains nm = true then out else out ++ [nm]) else varsTs out l
def varsTs (out : List Tx) : List Ty → List Tx
  | [] => out
  | t :: l => varsTs (varsT out t) l
end
def digF : Nat → Nat → Tx
  | 0, _ => []
  | f + 1, n => if n < 10 then [UInt8.ofNat (48 + n)] else digF f (n / 10) ++ [UInt8.ofNat (48 + n % 10)]
def digits (n : Nat) : Tx := digF (n + 1) n
def letter (i : Nat) : Tx := (39 :: [UInt8.ofNat (97 + i % 26)]) ++ (if 26 ≤ i then digits (i / 26) else [])
/-- How close an argument must bind. -/
def closeA (nm : Tx) (i : Nat) : Nat := if nm = sArrow then (if i = 0 then 1 else 0) else 2
def ownB (nm : Tx) : Nat := if nm = sArrow then 0 else if nm = sTuple then 1 else 2
def sepT : Tx := [32, 42, 32]
def bodyT (nm : Tx) (L : List Tx) : Tx :=
  if nm = sArrow then L.getD 0 [] ++ [32, 45, 62, 32] ++ L.getD 1 []
  else if nm = sTuple then sepT.intercalate L
  else if nm = sList then L.getD 0 [] ++ [32, 108, 105, 115, 116]
  else nm
def wrapT (own close : Nat) (s : Tx) : Tx := if own < close then (40 :: s) ++ [41] else s
mutual
def showT (vs : List Tx) (close : Nat) : Ty → Tx
  | .mk nm l => if vs.contains nm = true then letter (vs.idxOf nm) else wrapT (ownB nm) close (bodyT nm (showTs vs nm 0 l))
def showTs (vs : List Tx) (nm : Tx) (i : Nat) : List Ty → List Tx
  | [] => []
  | t :: l => showT vs (closeA nm i) t :: showTs vs nm (i + 1) l
end
def textT (t : Ty) : Tx := if mayT t = true then showT (varsT [] t) 0 t else []
theorem showTs_len (vs : List Tx) (nm : Tx) : ∀ (l : List Ty) (i : Nat), (showTs vs nm i l).length = l.length
  | [], _ => rfl
  | t :: l, i => by simp only [showTs, List.length_cons, showTs_len vs nm l (i + 1)]
theorem digF_len : ∀ (f n : Nat), n < 10 ^ 3 → (digF f n).length ≤ 3
  | 0, _, _ => by simp [digF]
  | 1, n, _ => by unfold digF; split <;> simp [digF]
  | 2, n, _ => by
    unfold digF
    split
    · simp
    · have := digF_len 1 (n / 10) (by omega)
      have h1 : (digF 1 (n / 10)).length ≤ 1 := by unfold digF; split <;> simp [digF]
      simp; omega
  | f + 3, n, h => by
    unfold digF
    split
    · simp
    · unfold digF
      split
      · simp
      · unfold digF
        rw [if_pos (by omega)]; simp
theorem letter_len {i : Nat} (h : i < 10000) : (letter i).length ≤ 5 := by
  unfold letter digits
  have := digF_len (i / 26 + 1) (i / 26) (by omega)
  split <;> simp <;> omega
def lenL (L : List Tx) : Nat := (L.map List.length).sum
theorem inter_len (s : Tx) : ∀ (L : List Tx), (s.intercalate L).length ≤ lenL L + s.length * L.length
  | [] => by simp [List.intercalate]
  | [x] => by simp [List.intercalate, List.intersperse, lenL]
  | x :: y :: L => by
    have ih := inter_len s (y :: L)
    have e : s.intercalate (x :: y :: L) = x ++ (s ++ s.intercalate (y :: L)) := by simp [List.intercalate, List.intersperse]
    rw [e]
    simp only [lenL, List.map_cons, List.sum_cons, List.length_cons, List.length_append] at ih ⊢
    rw [Nat.mul_add s.length (L.length + 1) 1]
    omega
theorem mem_sum : ∀ {L : List Tx} {x : Tx}, x ∈ L → x.length ≤ lenL L
  | y :: L, x, h => by
    simp only [lenL, List.map_cons, List.sum_cons]
    rcases List.mem_cons.1 h with rfl | h
    · omega
    · have := mem_sum h
      unfold lenL at this
      omega
theorem bodyT_len (nm : Tx) (L : List Tx) : (bodyT nm L).length ≤ nm.length + lenL L + 5 + 3 * L.length := by
  have g : ∀ i, (L.getD i []).length ≤ lenL L := fun i => by
    rw [List.getD_eq_getElem?_getD]
    cases h : L[i]? with
    | none => simp
    | some x =>
      simp only [Option.getD_some]
      exact mem_sum (List.mem_of_getElem? h)
  have g2 : (L.getD 0 []).length + (L.getD 1 []).length ≤ lenL L := by
    match L with
    | [] => simp [lenL]
    | [x] => simp [lenL]
    | x :: y :: L => simp [lenL]
  unfold bodyT
  split
  · simp only [List.length_append, List.length_cons, List.length_nil]; omega
  · split
    · have := inter_len sepT L
      have hs : sepT.length = 3 := rfl
      rw [hs] at this
      omega
    · split
      · have := g 0
        simp only [List.length_append, List.length_cons, List.length_nil]; omega
      · omega
theorem wrapT_len (a b : Nat) (s : Tx) : (wrapT a b s).length ≤ s.length + 2 := by
  unfold wrapT; split <;> simp
theorem nameOk_len {nm : Tx} {n : Nat} (h : nameOk nm n = true) : nm.length ≤ 65 := by
  unfold nameOk at h
  cases h1 : baseB nm with
  | true =>
    unfold baseB at h1
    simp only [Bool.or_eq_true, beq_iff_eq] at h1
    rcases h1 with rfl | rfl | rfl | rfl | rfl <;> decide
  | false =>
    rw [h1, cond_false] at h
    cases h2 : nm == sArrow with
    | true => rw [beq_iff_eq.1 h2]; decide
    | false =>
      rw [h2, cond_false] at h
      cases h3 : nm == sTuple with
      | true => rw [beq_iff_eq.1 h3]; decide
      | false =>
        rw [h3, cond_false] at h
        cases h4 : nm == sList with
        | true => rw [beq_iff_eq.1 h4]; decide
        | false =>
          rw [h4, cond_false] at h
          simp only [Bool.and_eq_true, varB, decide_eq_true_eq] at h
          omega
theorem show_len (vs : List Tx) (hv : vs.length ≤ 10000) : ∀ (n : Nat), (∀ t : Ty, SizeOf.sizeOf t < n → formT t = true → ∀ c, (showT vs c t).length + 3 ≤ 100 * szT t) ∧ (∀ l : List Ty, SizeOf.sizeOf l < n → formTs l = true → ∀ nm i, lenL (showTs vs nm i l) + 3 * l.length ≤ 100 * szTs l) := by
  intro n
  induction n with
  | zero => exact ⟨fun _ h => by omega, fun _ h => by omega⟩
  | succ n ih =>
    constructor
    · intro t h hf c
      cases t with
      | mk nm l =>
        simp only [Ty.mk.sizeOf_spec] at h
        simp only [formT, Bool.and_eq_true] at hf
        simp only [showT, szT]
        split
        · rename_i hc
          have : vs.idxOf nm < vs.length := List.idxOf_lt_length_iff.2 (by simpa using hc)
          have := letter_len (i := vs.idxOf nm) (by omega)
          omega
        · have h1 := wrapT_len (ownB nm) c (bodyT nm (showTs vs nm 0 l))
          have h2 := bodyT_len nm (showTs vs nm 0 l)
          have h3 := nameOk_len hf.1
          have h4 := ih.2 l (by omega) hf.2 nm 0
          have h5 := szTs_len l
          have h7 := showTs_len vs nm l 0
          -- each element is at least ..
          omega
    · intro l h hf nm i
      cases l with
      | nil => simp [showTs, lenL]
      | cons t l =>
        simp only [List.cons.sizeOf_spec] at h
        simp only [formTs, Bool.and_eq_true] at hf
        have h1 := ih.1 t (by omega) hf.1 (closeA nm i)
        have h2 := ih.2 l (by omega) hf.2 nm (i + 1)
        simp only [showTs, szTs, lenL, List.map_cons, List.sum_cons, List.length_cons] at h2 ⊢
        omega
theorem showT_len {vs : List Tx} (hv : vs.length ≤ 10000) {t : Ty} (h : formT t = true) (c : Nat) : (showT vs c t).length + 3 ≤ 100 * szT t := (show_len vs hv _).1 t (Nat.lt_succ_self _) h c
end Go.Ty
/- Types have the same text just if they are the same but for their variables' names; plain Lean. -/
namespace Go.Ty
open Go.VM
/-- A type whose variables are told by their numbers. -/
inductive Sh where
  | v (i : Nat)
  | n (nm : Tx) (l : List Sh)
  deriving Inhabited
mutual
def shape (vs : List Tx) : Ty → Sh
  | .mk nm l => if vs.contains nm = true then .v (vs.idxOf nm) else .n nm (shapes vs l)
def shapes (vs : List Tx) : List Ty → List Sh
  | [] => []
  | t :: l => shape vs t :: shapes vs l
end
mutual
def showS (close : Nat) : Sh → Tx
  | .v i => letter i
  | .n nm l => wrapT (ownB nm) close (bodyT nm (showSs nm 0 l))
def showSs (nm : Tx) (i : Nat) : List Sh → List Tx
  | [] => []
  | t :: l => showS (closeA nm i) t :: showSs nm (i + 1) l
end
theorem show_shape (vs : List Tx) : ∀ (n : Nat), (∀ t : Ty, SizeOf.sizeOf t < n → ∀ c, showT vs c t = showS c (shape vs t)) ∧ (∀ l : List Ty, SizeOf.sizeOf l < n → ∀ nm i, showTs vs nm i l = showSs nm i (shapes vs l)) := by
  intro n
  induction n with
  | zero => exact ⟨fun _ h => by omega, fun _ h => by omega⟩
  | succ n ih =>
    constructor
    · intro t h c
      cases t with
      | mk nm l =>
        simp only [Ty.mk.sizeOf_spec] at h
        simp only [showT, shape]
        split
        · simp only [showS]
        · simp only [showS, ih.2 l (by omega)]
    · intro l h nm i
      cases l with
      | nil => simp only [showTs, shapes, showSs]
      | cons t l =>
        simp only [List.cons.sizeOf_spec] at h
        simp only [showTs, shapes, showSs, ih.1 t (by omega), ih.2 l (by omega)]
theorem showT_shape (vs : List Tx) (c : Nat) (t : Ty) : showT vs c t = showS c (shape vs t) := (show_shape vs _).1 t (Nat.lt_succ_self _) c
mutual
def namedT (vs : List Tx) : Ty → Ty
  | .mk nm l => if vs.contains nm = true then .mk (digits (vs.idxOf nm)) [] else .mk nm (namedTs vs l)
def namedTs (vs : List Tx) : List Ty → List Ty
  | [] => []
  | t :: l => namedT vs t :: namedTs vs l
end
mutual
def nameS : Sh → Ty
  | .v i => .mk (digits i) []
  | .n nm l => .mk nm (nameSs l)
def nameSs : List Sh → List Ty
  | [] => []
  | t :: l => nameS t :: nameSs l
end
theorem named_shape (vs : List Tx) : ∀ (n : Nat), (∀ t : Ty, SizeOf.sizeOf t < n → namedT vs t = nameS (shape vs t)) ∧ (∀ l : List Ty, SizeOf.sizeOf l < n → namedTs vs l = nameSs (shapes vs l)) := by
  intro n
  induction n with
  | zero => exact ⟨fun _ h => by omega, fun _ h => by omega⟩
  | succ n ih =>
    constructor
    · intro t h
      cases t with
      | mk nm l =>
        simp only [Ty.mk.sizeOf_spec] at h
        simp only [namedT, shape]
        split
        · simp only [nameS]
        · simp only [nameS, ih.2 l (by omega)]
    · intro l h
      cases l with
      | nil => simp only [namedTs, shapes, nameSs]
      | cons t l =>
        simp only [List.cons.sizeOf_spec] at h
        simp only [namedTs, shapes, nameSs, ih.1 t (by omega), ih.2 l (by omega)]
theorem namedT_shape (vs : List Tx) (t : Ty) : namedT vs t = nameS (shape vs t) := (named_shape vs _).1 t (Nat.lt_succ_self _)
mutual
/-- A shape in order: no variable has a name. -/
def wf : Sh → Bool
  | .v i => decide (i < 10000)
  | .n nm l => (nameOk nm l.length && !varB nm) && wfs l
def wfs : List Sh → Bool
  | [] => true
  | t :: l => wf t && wfs l
end
theorem wfs_mem : ∀ {l : List Sh}, wfs l = true → ∀ t ∈ l, wf t = true
  | u :: l, h, t, ht => by
    simp only [wfs, Bool.and_eq_true] at h
    rcases List.mem_cons.1 ht with rfl | ht
    · exact h.1
    · exact wfs_mem h.2 t ht
inductive Head (nm : Tx) (l : List Sh) : Prop
  | base (h : baseB nm = true) (hl : l = [])
  | arrow (h : nm = sArrow) (a b : Sh) (hl : l = [a, b])
  | tuple (h : nm = sTuple) (a b : Sh) (r : List Sh) (hl : l = a :: b :: r)
  | list (h : nm = sList) (a : Sh) (hl : l = [a])
theorem head_of {nm : Tx} {l : List Sh} (h : wf (.n nm l) = true) : Head nm l ∧ wfs l = true := by
  simp only [wf, Bool.and_eq_true] at h
  refine ⟨?_, h.2⟩
  have h1 := h.1.1
  unfold nameOk at h1
  cases hb : baseB nm with
  | true =>
    rw [hb, cond_true, beq_iff_eq] at h1
    exact .base hb (List.length_eq_zero_iff.1 (by omega))
  | false =>
    rw [hb, cond_false] at h1
    cases h2 : nm == sArrow with
    | true =>
      rw [h2, cond_true, beq_iff_eq] at h1
      match l, h1 with
      | [a, b], _ => exact .arrow (beq_iff_eq.1 h2) a b rfl
      | [], h1 => simp at h1
      | [_], h1 => simp at h1
      | _ :: _ :: _ :: _, h1 => simp at h1; omega
    | false =>
      rw [h2, cond_false] at h1
      cases h3 : nm == sTuple with
      | true =>
        rw [h3, cond_true, decide_eq_true_eq] at h1
        match l, h1 with
        | a :: b :: r, _ => exact .tuple (beq_iff_eq.1 h3) a b r rfl
        | [], h1 => simp at h1
        | [_], h1 => simp at h1
      | false =>
        rw [h3, cond_false] at h1
        cases h4 : nm == sList with
        | true =>
          rw [h4, cond_true, beq_iff_eq] at h1
          match l, h1 with
          | [a], _ => exact .list (beq_iff_eq.1 h4) a rfl
          | [], h1 => simp at h1
          | _ :: _ :: _, h1 => simp at h1; omega
        | false =>
          rw [h4, cond_false, Bool.and_eq_true] at h1
          have h5 := h.1.2
          rw [h1.2] at h5
          cases h5
/-- What may stand behind an atom. -/
def endB : Tx → Bool
  | [] => true
  | c :: _ => c == 32 || c == 41
def S2 (r : Tx) : Prop := r = [] ∨ (∃ q, r = 41 :: q) ∨ (∃ q, r = 32 :: 42 :: q) ∨ ∃ q, r = 32 :: 45 :: q
def S1 (r : Tx) : Prop := r = [] ∨ (∃ q, r = 41 :: q) ∨ ∃ q, r = 32 :: 45 :: q
def S0 (r : Tx) : Prop := r = [] ∨ ∃ q, r = 41 :: q
theorem S0.s1 {r : Tx} (h : S0 r) : S1 r := by rcases h with h | h; exact .inl h; exact .inr (.inl h)
theorem S1.s2 {r : Tx} (h : S1 r) : S2 r := by
  rcases h with h | h | h
  · exact .inl h
  · exact .inr (.inl h)
  · exact .inr (.inr (.inr h))
theorem S2.e {r : Tx} (h : S2 r) : endB r = true := by
  rcases h with rfl | ⟨q, rfl⟩ | ⟨q, rfl⟩ | ⟨q, rfl⟩ <;> rfl
/-- A run of letters is told from what stands behind it. -/
theorem run_eq : ∀ {a b r s : Tx}, a.all idB = true → b.all idB = true → endB r = true → endB s = true → a ++ r = b ++ s → a = b ∧ r = s
  | [], [], _, _, _, _, _, _, h => ⟨rfl, h⟩
  | c :: a, d :: b, r, s, ha, hb, hr, hs, h => by
    simp only [List.all_cons, Bool.and_eq_true] at ha hb
    simp only [List.cons_append, List.cons.injEq] at h
    obtain ⟨h1, h2⟩ := run_eq ha.2 hb.2 hr hs h.2
    exact ⟨by rw [h.1, h1], h2⟩
  | [], d :: b, r, s, ha, hb, hr, hs, h => by
    simp only [List.nil_append, List.cons_append] at h
    subst h
    simp only [endB, Bool.or_eq_true, beq_iff_eq] at hr
    simp only [List.all_cons, Bool.and_eq_true] at hb
    rcases hr with rfl | rfl
    · exact absurd hb.1 (by decide)
    · exact absurd hb.1 (by decide)
  | c :: a, [], r, s, ha, hb, hr, hs, h => by
    simp only [List.nil_append, List.cons_append] at h
    subst h
    simp only [endB, Bool.or_eq_true, beq_iff_eq] at hs
    simp only [List.all_cons, Bool.and_eq_true] at ha
    rcases hs with rfl | rfl
    · exact absurd ha.1 (by decide)
    · exact absurd ha.1 (by decide)
def listT : Tx := [32, 108, 105, 115, 116]
/-- So many 'list's. -/
def listN : Nat → Tx
  | 0 => []
  | k + 1 => listT ++ listN k
theorem listN_succ (k : Nat) : listN (k + 1) = listN k ++ listT := by
  induction k with
  | zero => rfl
  | succ k ih =>
    show listT ++ listN (k + 1) = (listT ++ listN k) ++ listT
    rw [ih, List.append_assoc]
theorem listN_end : ∀ (k : Nat) {r : Tx}, S2 r → endB (listN k ++ r) = true
  | 0, _, h => by simpa [listN] using h.e
  | k + 1, _, _ => rfl
theorem listN_eq : ∀ {k m : Nat} {r s : Tx}, S2 r → S2 s → listN k ++ r = listN m ++ s → k = m ∧ r = s
  | 0, 0, _, _, _, _, h => ⟨rfl, by simpa [listN] using h⟩
  | k + 1, m + 1, r, s, hr, hs, h => by
    simp only [listN, List.append_assoc] at h
    obtain ⟨h1, h2⟩ := listN_eq hr hs (List.append_cancel_left h)
    exact ⟨by rw [h1], h2⟩
  | 0, m + 1, r, s, hr, hs, h => by
    simp only [listN, List.nil_append, listT, List.cons_append] at h
    rcases hr with rfl | ⟨q, rfl⟩ | ⟨q, rfl⟩ | ⟨q, rfl⟩ <;> simp at h
  | k + 1, 0, r, s, hr, hs, h => by
    simp only [listN, List.nil_append, listT, List.cons_append] at h
    rcases hs with rfl | ⟨q, rfl⟩ | ⟨q, rfl⟩ | ⟨q, rfl⟩ <;> simp at h
/-- A list's list's .. core. -/
def lists : Nat → Sh → Sh
  | 0, s => s
  | k + 1, s => .n sList [lists k s]
def isList : Sh → Bool
  | .n nm _ => nm == sList
  | _ => false
theorem core_of : ∀ (n : Nat) (s : Sh), SizeOf.sizeOf s < n → wf s = true → ∃ k c, s = lists k c ∧ isList c = false ∧ wf c = true ∧ SizeOf.sizeOf c ≤ SizeOf.sizeOf s := by
  intro n
  induction n with
  | zero => intro s h; omega
  | succ n ih =>
    intro s h hw
    cases hl : isList s with
    | false => exact ⟨0, s, rfl, hl, hw, Nat.le_refl _⟩
    | true =>
      cases s with
      | v i => simp [isList] at hl
      | n nm l =>
        simp only [isList, beq_iff_eq] at hl
        subst hl
        obtain ⟨hd, hws⟩ := head_of hw
        cases hd with
        | base h => exact absurd h (by decide)
        | arrow h => exact absurd h (by decide)
        | tuple h => exact absurd h (by decide)
        | list _ a hl =>
          subst hl
          simp only [Sh.n.sizeOf_spec, List.cons.sizeOf_spec, List.nil.sizeOf_spec] at h
          obtain ⟨k, c, e, h1, h2, h3⟩ := ih a (by omega) (wfs_mem hws a (by simp))
          exact ⟨k + 1, c, by rw [lists, e], h1, h2, by simp only [Sh.n.sizeOf_spec, List.cons.sizeOf_spec, List.nil.sizeOf_spec]; omega⟩
theorem show_list (a : Sh) (c : Nat) (hc : c ≤ 2) : showS c (.n sList [a]) = showS 2 a ++ listT := by
  have e : bodyT sList (showSs sList 0 [a]) = showS 2 a ++ listT := rfl
  simp only [showS, e, wrapT, show ownB sList = 2 from rfl, if_neg (show ¬ 2 < c by omega)]
theorem show_lists : ∀ (k : Nat) (c : Sh), showS 2 (lists k c) = showS 2 c ++ listN k
  | 0, c => by simp [lists, listN]
  | k + 1, c => by rw [lists, show_list _ 2 (Nat.le_refl _), show_lists k c, listN_succ, List.append_assoc]
theorem lists_size : ∀ (k : Nat) (c : Sh), SizeOf.sizeOf c + k ≤ SizeOf.sizeOf (lists k c)
  | 0, c => Nat.le_refl _
  | k + 1, c => by
    have := lists_size k c
    simp only [lists, Sh.n.sizeOf_spec, List.cons.sizeOf_spec, List.nil.sizeOf_spec]; omega
/-! numbers -/
def valD (l : Tx) : Nat := l.foldl (fun a c => a * 10 + (c.toNat - 48)) 0
theorem dig_one : ∀ d, d < 10 → (UInt8.ofNat (48 + d)).toNat = 48 + d := by decide
theorem valD_dig : ∀ (f n : Nat), n < f → valD (digF f n) = n
  | 0, _, h => by omega
  | f + 1, n, h => by
    unfold digF
    split
    · rename_i h1
      show 0 * 10 + ((UInt8.ofNat (48 + n)).toNat - 48) = n
      rw [dig_one n h1]; omega
    · have ih := valD_dig f (n / 10) (by omega)
      unfold valD at ih ⊢
      rw [List.foldl_append, ih]
      show n / 10 * 10 + ((UInt8.ofNat (48 + n % 10)).toNat - 48) = n
      rw [dig_one _ (by omega)]; omega
theorem valD_digits (n : Nat) : valD (digits n) = n := valD_dig _ _ (Nat.lt_succ_self _)
def digB (c : UInt8) : Bool := decide (48 ≤ c.toNat) && decide (c.toNat ≤ 57)
theorem digB_id {c : UInt8} (h : digB c = true) : idB c = true := by
  simp only [digB, Bool.and_eq_true] at h
  simp only [idB, h.1, h.2, Bool.and_self, Bool.or_true]
theorem digF_all : ∀ (f n : Nat), (digF f n).all digB = true
  | 0, _ => rfl
  | f + 1, n => by
    unfold digF
    have g : ∀ d, d < 10 → digB (UInt8.ofNat (48 + d)) = true := by decide
    split
    · rename_i h; simp only [List.all_cons, List.all_nil, g n h, Bool.and_self]
    · simp only [List.all_append, List.all_cons, List.all_nil, digF_all f, g (n % 10) (by omega), Bool.and_self]
theorem digits_ne (n : Nat) : ∃ c l, digits n = c :: l ∧ digB c = true := by
  have h := digF_all (n + 1) n
  unfold digits
  cases e : digF (n + 1) n with
  | nil =>
    exfalso
    unfold digF at e
    split at e
    · cases e
    · simp at e
  | cons c l =>
    rw [e] at h
    simp only [List.all_cons, Bool.and_eq_true] at h
    exact ⟨c, l, rfl, h.1⟩
theorem letter_tail (i : Nat) : ∃ l, letter i = 39 :: l ∧ l.all idB = true := by
  refine ⟨_, rfl, ?_⟩
  have g : ∀ d, d < 26 → idB (UInt8.ofNat (97 + d)) = true := by decide
  have h := digF_all (i / 26 + 1) (i / 26)
  have h2 : (digits (i / 26)).all idB = true := List.all_eq_true.2 fun x hx => digB_id (List.all_eq_true.1 h x hx)
  show (UInt8.ofNat (97 + i % 26) :: (if 26 ≤ i then digits (i / 26) else [])).all idB = true
  rw [List.all_cons, g _ (Nat.mod_lt _ (by omega)), Bool.true_and]
  split
  · exact h2
  · rfl
theorem letter_inj {i j : Nat} (h : letter i = letter j) : i = j := by
  have v : ∀ i, valD (if 26 ≤ i then digits (i / 26) else []) = i / 26 := fun i => by
    split
    · exact valD_digits _
    · show 0 = _; omega
  unfold letter at h
  simp only [List.cons_append, List.nil_append, List.cons.injEq, true_and] at h
  have h1 := congrArg UInt8.toNat h.1
  have g : ∀ d, d < 26 → (UInt8.ofNat (97 + d)).toNat = 97 + d := by decide
  rw [g _ (Nat.mod_lt _ (by omega)), g _ (Nat.mod_lt _ (by omega))] at h1
  have h2 := congrArg valD h.2
  rw [v, v] at h2
  omega
/-! shapes are told from their text -/
def Q2 (a : Sh) : Prop := ∀ b r s, wf b = true → S2 r → S2 s → showS 2 a ++ r = showS 2 b ++ s → a = b ∧ r = s
def Q1 (a : Sh) : Prop := ∀ b r s, wf b = true → S1 r → S1 s → showS 1 a ++ r = showS 1 b ++ s → a = b ∧ r = s
def Q0 (a : Sh) : Prop := ∀ b r s, wf b = true → S0 r → S0 s → showS 0 a ++ r = showS 0 b ++ s → a = b ∧ r = s
def QC (a : Sh) : Prop := ∀ b r s, wf b = true → isList b = false → endB r = true → endB s = true → showS 2 a ++ r = showS 2 b ++ s → a = b ∧ r = s
def isArrow : Sh → Bool
  | .n nm _ => nm == sArrow
  | _ => false
def isTuple : Sh → Bool
  | .n nm _ => nm == sTuple
  | _ => false
theorem base_id {nm : Tx} (h : baseB nm = true) : ∃ c l, nm = c :: l ∧ (c :: l).all idB = true := by
  unfold baseB at h
  simp only [Bool.or_eq_true, beq_iff_eq] at h
  rcases h with rfl | rfl | rfl | rfl | rfl <;> exact ⟨_, _, rfl, by decide⟩
theorem base_show {nm : Tx} (h : baseB nm = true) (c : Nat) (hc : c ≤ 2) : showS c (.n nm []) = nm := by
  unfold baseB at h
  simp only [Bool.or_eq_true, beq_iff_eq] at h
  have e : ∀ nm : Tx, ownB nm = 2 → bodyT nm [] = nm → showS c (.n nm []) = nm := fun nm h1 h2 => by
    simp only [showS, showSs, wrapT, h1, h2, if_neg (show ¬ 2 < c by omega)]
  rcases h with rfl | rfl | rfl | rfl | rfl <;> exact e _ (by decide) (by decide)
theorem arrow_par (l : List Sh) : showS 2 (.n sArrow l) = 40 :: (showS 0 (.n sArrow l) ++ [41]) := by
  simp [showS, wrapT, ownB]
theorem arrow_par1 (l : List Sh) : showS 1 (.n sArrow l) = showS 2 (.n sArrow l) := by
  simp [showS, wrapT, ownB]
theorem tuple_par (l : List Sh) : showS 2 (.n sTuple l) = 40 :: (showS 0 (.n sTuple l) ++ [41]) := by
  simp [showS, wrapT, ownB, show (sTuple = sArrow) = False from eq_false (by decide)]
theorem tuple_01 (l : List Sh) : showS 0 (.n sTuple l) = showS 1 (.n sTuple l) := by
  simp [showS, wrapT, ownB, show (sTuple = sArrow) = False from eq_false (by decide)]
/-- What a core is. -/
theorem core_kind {b : Sh} (hw : wf b = true) (hl : isList b = false) :
    (∃ i, b = .v i) ∨ (∃ nm, b = .n nm [] ∧ baseB nm = true) ∨ (showS 2 b = 40 :: (showS 0 b ++ [41]) ∧ (isArrow b || isTuple b) = true) := by
  cases b with
  | v i => exact .inl ⟨i, rfl⟩
  | n nm l =>
    obtain ⟨hd, -⟩ := head_of hw
    cases hd with
    | base h e => subst e; exact .inr (.inl ⟨nm, rfl, h⟩)
    | arrow h => subst h; exact .inr (.inr ⟨arrow_par l, rfl⟩)
    | tuple h => subst h; exact .inr (.inr ⟨tuple_par l, rfl⟩)
    | list h => subst h; cases hl
theorem base_ne {nm : Tx} (h : baseB nm = true) {c : UInt8} (hc : idB c = false) {q r : Tx} : nm ++ r ≠ c :: q := by
  obtain ⟨d, l, rfl, hd⟩ := base_id h
  intro e
  simp only [List.cons_append, List.cons.injEq] at e
  simp only [List.all_cons, Bool.and_eq_true] at hd
  rw [e.1, hc] at hd
  cases hd.1
theorem QC.of {a : Sh} (hw : wf a = true) (hl : isList a = false) (h0 : (isArrow a || isTuple a) = true → Q0 a) : QC a := by
  intro b r s hwb hlb hr hs e
  rcases core_kind hw hl with ⟨i, rfl⟩ | ⟨nm, rfl, hn⟩ | ⟨ea, ha⟩ <;> rcases core_kind hwb hlb with ⟨j, rfl⟩ | ⟨mm, rfl, hm⟩ | ⟨eb, hb⟩
  · obtain ⟨la, ela, ha⟩ := letter_tail i
    obtain ⟨lb, elb, hb⟩ := letter_tail j
    simp only [showS, ela, elb, List.cons_append, List.cons.injEq, true_and] at e
    obtain ⟨h1, h2⟩ := run_eq ha hb hr hs e
    exact ⟨by rw [letter_inj (ela.trans (by rw [h1, elb]))], h2⟩
  · obtain ⟨la, ela, ha⟩ := letter_tail i
    rw [base_show hm 2 (Nat.le_refl _)] at e
    simp only [showS, ela, List.cons_append] at e
    exact absurd e.symm (base_ne hm (by decide))
  · obtain ⟨la, ela, ha⟩ := letter_tail i
    rw [eb] at e
    simp only [showS, ela, List.cons_append, List.cons.injEq] at e
    exact absurd e.1 (by decide)
  · obtain ⟨la, ela, ha⟩ := letter_tail j
    rw [base_show hn 2 (Nat.le_refl _)] at e
    simp only [showS, ela, List.cons_append] at e
    exact absurd e (base_ne hn (by decide))
  · rw [base_show hn 2 (Nat.le_refl _), base_show hm 2 (Nat.le_refl _)] at e
    obtain ⟨c, l, e1, h1⟩ := base_id hn
    obtain ⟨d, k, e2, h2⟩ := base_id hm
    obtain ⟨h3, h4⟩ := run_eq (e1 ▸ h1) (e2 ▸ h2) hr hs e
    exact ⟨by rw [h3], h4⟩
  · rw [base_show hn 2 (Nat.le_refl _), eb] at e
    exact absurd e (base_ne hn (by decide))
  · obtain ⟨la, ela, ha'⟩ := letter_tail j
    rw [ea] at e
    simp only [showS, ela, List.cons_append, List.cons.injEq] at e
    exact absurd e.1 (by decide)
  · rw [base_show hm 2 (Nat.le_refl _), ea] at e
    exact absurd e.symm (base_ne hm (by decide))
  · rw [ea, eb] at e
    simp only [List.cons_append, List.cons.injEq, true_and, List.append_assoc, List.nil_append] at e
    obtain ⟨h1, h2⟩ := h0 ha b _ _ hwb (.inr ⟨r, rfl⟩) (.inr ⟨s, rfl⟩) e
    exact ⟨h1, (List.cons.inj h2).2⟩
theorem Q2.of {a : Sh} (ih : ∀ c, SizeOf.sizeOf c < SizeOf.sizeOf a → wf c = true → isList c = false → QC c) (hw : wf a = true) (h0 : isList a = false → QC a) : Q2 a := by
  intro b r s hwb hr hs e
  obtain ⟨k, c, rfl, hlc, hwc, _⟩ := core_of _ a (Nat.lt_succ_self _) hw
  obtain ⟨m, d, rfl, hld, hwd, _⟩ := core_of _ b (Nat.lt_succ_self _) hwb
  have hc : QC c := by
    cases k with
    | zero => exact h0 hlc
    | succ k => exact ih c (by have := lists_size (k + 1) c; omega) hwc hlc
  rw [show_lists, show_lists, List.append_assoc, List.append_assoc] at e
  obtain ⟨h1, h2⟩ := hc d _ _ hwd hld (listN_end k hr) (listN_end m hs) e
  obtain ⟨h3, h4⟩ := listN_eq hr hs h2
  exact ⟨by rw [h1, h3], h4⟩
/-- A tuple's parts. -/
def partsS : Sh → List Sh
  | .n nm l => if nm = sTuple then l else [.n nm l]
  | .v i => [.v i]
theorem parts_n (nm : Tx) (l : List Sh) : partsS (.n nm l) = if nm = sTuple then l else [.n nm l] := rfl
theorem showSs_map {nm : Tx} (h : nm ≠ sArrow) : ∀ (l : List Sh) (i : Nat), showSs nm i l = l.map (showS 2)
  | [], _ => rfl
  | t :: l, i => by simp only [showSs, closeA, if_neg h, List.map_cons, showSs_map h l]
theorem show1_parts {b : Sh} (hw : wf b = true) : showS 1 b = sepT.intercalate ((partsS b).map (showS 2)) := by
  cases b with
  | v i => simp [partsS, showS, List.intercalate, List.intersperse]
  | n nm l =>
    rw [parts_n]
    split
    · rename_i h
      subst h
      have : bodyT sTuple (showSs sTuple 0 l) = sepT.intercalate (l.map (showS 2)) := by
        rw [showSs_map (by decide)]; rfl
      simp only [showS, this, wrapT, show ownB sTuple = 1 from rfl, if_neg (show ¬ 1 < 1 by omega)]
    · rename_i h
      rw [List.map_cons, List.map_nil, show sepT.intercalate [showS 2 (Sh.n nm l)] = showS 2 (Sh.n nm l) by simp [List.intercalate, List.intersperse]]
      obtain ⟨hd, -⟩ := head_of hw
      cases hd with
      | base h e => subst e; rw [base_show h 1 (by omega), base_show h 2 (by omega)]
      | arrow h => subst h; exact arrow_par1 l
      | tuple h' => exact absurd h' h
      | list h _ e => subst h; subst e; rw [show_list _ 1 (by omega), show_list _ 2 (by omega)]
theorem inter_eq : ∀ {A B : List Sh} {r s : Tx}, A ≠ [] → B ≠ [] → (∀ a ∈ A, Q2 a) → wfs B = true → S1 r → S1 s →
    sepT.intercalate (A.map (showS 2)) ++ r = sepT.intercalate (B.map (showS 2)) ++ s → A = B ∧ r = s := by
  have e1 : ∀ (x : Tx), sepT.intercalate [x] = x := fun x => by simp [List.intercalate, List.intersperse]
  have e2 : ∀ (x y : Tx) L (r : Tx), sepT.intercalate (x :: y :: L) ++ r = x ++ (32 :: 42 :: 32 :: (sepT.intercalate (y :: L) ++ r)) := fun x y L r => by
    simp [List.intercalate, List.intersperse, sepT]
  intro A
  induction A with
  | nil => intro B r s h; exact absurd rfl h
  | cons a A ih =>
    intro B r s _ hB hq hw hr hs e
    cases B with
    | nil => exact absurd rfl hB
    | cons b B =>
      simp only [wfs, Bool.and_eq_true] at hw
      cases A with
      | nil =>
        cases B with
        | nil =>
          simp only [List.map_cons, List.map_nil, e1] at e
          obtain ⟨h1, h2⟩ := hq a (by simp) b r s hw.1 hr.s2 hs.s2 e
          exact ⟨by rw [h1], h2⟩
        | cons b' B =>
          simp only [List.map_cons, List.map_nil, e1, e2] at e
          obtain ⟨-, h2⟩ := hq a (by simp) b r _ hw.1 hr.s2 (.inr (.inr (.inl ⟨_, rfl⟩))) e
          exfalso
          rcases hr with rfl | ⟨q, rfl⟩ | ⟨q, rfl⟩ <;> simp at h2
      | cons a' A =>
        cases B with
        | nil =>
          simp only [List.map_cons, List.map_nil, e1, e2] at e
          obtain ⟨-, h2⟩ := hq a (by simp) b _ s hw.1 (.inr (.inr (.inl ⟨_, rfl⟩))) hs.s2 e
          exfalso
          rcases hs with rfl | ⟨q, rfl⟩ | ⟨q, rfl⟩ <;> simp at h2
        | cons b' B =>
          simp only [List.map_cons, e2] at e
          obtain ⟨h1, h2⟩ := hq a (by simp) b _ _ hw.1 (.inr (.inr (.inl ⟨_, rfl⟩))) (.inr (.inr (.inl ⟨_, rfl⟩))) e
          simp only [List.cons.injEq, true_and] at h2
          obtain ⟨h3, h4⟩ := ih (B := b' :: B) (by simp) (by simp) (fun x hx => hq x (List.mem_cons_of_mem _ hx)) hw.2 hr hs (by simpa only [List.map_cons] using h2)
          exact ⟨by rw [h1, h3], h4⟩
theorem parts_wf {b : Sh} (hw : wf b = true) : wfs (partsS b) = true ∧ partsS b ≠ [] ∧ (isTuple b = true → 2 ≤ (partsS b).length) := by
  cases b with
  | v i => exact ⟨by simp [partsS, wfs, hw], by simp [partsS], fun h => by cases h⟩
  | n nm l =>
    rw [parts_n]
    split
    · rename_i h
      subst h
      obtain ⟨hd, hws⟩ := head_of hw
      cases hd with
      | base h => exact absurd h (by decide)
      | arrow h => exact absurd h (by decide)
      | tuple _ a b r e => subst e; exact ⟨hws, by simp, fun _ => by simp⟩
      | list h => exact absurd h (by decide)
    · rename_i h
      refine ⟨by simp [wfs, hw], by simp, fun ht => ?_⟩
      simp only [isTuple, beq_iff_eq] at ht
      exact absurd ht h
theorem parts_inj {a b : Sh} (ha : wf a = true) (hb : wf b = true) (e : partsS a = partsS b) : a = b := by
  have nt : ∀ {a : Sh}, isTuple a = false → partsS a = [a] := fun {a} h => by
    cases a with
    | v i => rfl
    | n nm l =>
      simp only [isTuple] at h
      have : nm ≠ sTuple := by intro hh; subst hh; simp at h
      simp only [partsS, if_neg this]
  have yt : ∀ {a : Sh}, isTuple a = true → a = .n sTuple (partsS a) := fun {a} h => by
    cases a with
    | v i => cases h
    | n nm l =>
      simp only [isTuple, beq_iff_eq] at h
      subst h
      simp only [partsS, if_true]
  cases h1 : isTuple a with
  | true =>
    cases h2 : isTuple b with
    | true => rw [yt h1, yt h2, e]
    | false =>
      have := (parts_wf ha).2.2 h1
      rw [e, nt h2] at this
      simp at this
  | false =>
    cases h2 : isTuple b with
    | true =>
      have := (parts_wf hb).2.2 h2
      rw [← e, nt h1] at this
      simp at this
    | false => rw [nt h1, nt h2] at e; exact (List.cons.inj e).1
theorem mem_size : ∀ {l : List Sh} {t : Sh}, t ∈ l → SizeOf.sizeOf t < SizeOf.sizeOf l
  | u :: l, t, h => by
    simp only [List.cons.sizeOf_spec]
    rcases List.mem_cons.1 h with rfl | h
    · omega
    · have := mem_size h; omega
theorem Q1.of {a : Sh} (ih : ∀ c, SizeOf.sizeOf c < SizeOf.sizeOf a → wf c = true → Q2 c) (hw : wf a = true) (h0 : isTuple a = false → Q2 a) : Q1 a := by
  intro b r s hwb hr hs e
  rw [show1_parts hw, show1_parts hwb] at e
  obtain ⟨w1, n1, -⟩ := parts_wf hw
  obtain ⟨w2, n2, -⟩ := parts_wf hwb
  obtain ⟨h1, h2⟩ := inter_eq n1 n2 (fun x hx => by
    cases a with
    | v i =>
      simp only [partsS, List.mem_singleton] at hx
      subst hx
      exact h0 rfl
    | n nm l =>
      rw [parts_n] at hx
      split at hx
      · rename_i h
        have := mem_size hx
        exact ih x (by simp only [Sh.n.sizeOf_spec]; omega) (wfs_mem (head_of hw).2 x hx)
      · rename_i h
        simp only [List.mem_singleton] at hx
        subst hx
        exact h0 (by simpa [isTuple] using h)) w2 hr hs e
  exact ⟨parts_inj hw hwb h1, h2⟩
def arrT : Tx := [32, 45, 62, 32]
theorem show0_1 {b : Sh} (hw : wf b = true) (h : isArrow b = false) : showS 0 b = showS 1 b := by
  cases b with
  | v i => rfl
  | n nm l =>
    obtain ⟨hd, -⟩ := head_of hw
    cases hd with
    | base h2 e => subst e; rw [base_show h2 0 (by omega), base_show h2 1 (by omega)]
    | arrow h' => subst h'; cases h
    | tuple h' => subst h'; exact tuple_01 l
    | list h' _ e => subst h'; subst e; rw [show_list _ 0 (by omega), show_list _ 1 (by omega)]
/-- How a shape begins. -/
theorem view0 {b : Sh} (hw : wf b = true) : (isArrow b = false ∧ showS 0 b = showS 1 b) ∨ ∃ x y, b = .n sArrow [x, y] ∧ wf x = true ∧ wf y = true ∧ showS 0 b = showS 1 x ++ arrT ++ showS 0 y := by
  cases h : isArrow b with
  | false => exact .inl ⟨rfl, show0_1 hw h⟩
  | true =>
    cases b with
    | v i => cases h
    | n nm l =>
      simp only [isArrow, beq_iff_eq] at h
      subst h
      obtain ⟨hd, hws⟩ := head_of hw
      cases hd with
      | base h => exact absurd h (by decide)
      | arrow _ x y e => subst e; exact .inr ⟨x, y, rfl, wfs_mem hws x (by simp), wfs_mem hws y (by simp), rfl⟩
      | tuple h => exact absurd h (by decide)
      | list h => exact absurd h (by decide)
theorem Q0.of {a : Sh} (ih : ∀ c, SizeOf.sizeOf c < SizeOf.sizeOf a → wf c = true → Q1 c ∧ Q0 c) (hw : wf a = true) (h0 : isArrow a = false → Q1 a) : Q0 a := by
  intro b r s hwb hr hs e
  have st : ∀ q : Tx, S1 (arrT ++ q) := fun q => .inr (.inr ⟨_, rfl⟩)
  rcases view0 hw with ⟨ha, ea⟩ | ⟨x, y, rfl, hx, hy, ea⟩ <;> rcases view0 hwb with ⟨hb, eb⟩ | ⟨x', y', rfl, hx', hy', eb⟩
  · rw [ea, eb] at e
    exact h0 ha b r s hwb hr.s1 hs.s1 e
  · rw [ea, eb, List.append_assoc, List.append_assoc] at e
    obtain ⟨-, h2⟩ := h0 ha x' r _ hx' hr.s1 (st _) e
    exfalso
    rcases hr with rfl | ⟨q, rfl⟩ <;> simp [arrT] at h2
  · rw [ea, eb, List.append_assoc, List.append_assoc] at e
    obtain ⟨-, h2⟩ := (ih x (by simp only [Sh.n.sizeOf_spec, List.cons.sizeOf_spec, List.nil.sizeOf_spec]; omega) hx).1 b _ s hwb (st _) hs.s1 e
    exfalso
    rcases hs with rfl | ⟨q, rfl⟩ <;> simp [arrT] at h2
  · rw [ea, eb, List.append_assoc, List.append_assoc, List.append_assoc, List.append_assoc] at e
    obtain ⟨h1, h2⟩ := (ih x (by simp only [Sh.n.sizeOf_spec, List.cons.sizeOf_spec, List.nil.sizeOf_spec]; omega) hx).1 x' _ _ hx' (st _) (st _) e
    obtain ⟨h3, h4⟩ := (ih y (by simp only [Sh.n.sizeOf_spec, List.cons.sizeOf_spec, List.nil.sizeOf_spec]; omega) hy).2 y' r s hy' hr hs (List.append_cancel_left h2)
    exact ⟨by rw [h1, h3], h4⟩
theorem tell : ∀ (n : Nat) (a : Sh), SizeOf.sizeOf a < n → wf a = true → (isList a = false → QC a) ∧ Q2 a ∧ Q1 a ∧ Q0 a := by
  intro n
  induction n with
  | zero => intro a h; omega
  | succ n ih =>
    intro a h hw
    have i0 : ∀ c, SizeOf.sizeOf c < SizeOf.sizeOf a → wf c = true → Q1 c ∧ Q0 c := fun c hc w => (ih c (by omega) w).2.2
    have i1 : ∀ c, SizeOf.sizeOf c < SizeOf.sizeOf a → wf c = true → Q2 c := fun c hc w => (ih c (by omega) w).2.1
    have i2 : ∀ c, SizeOf.sizeOf c < SizeOf.sizeOf a → wf c = true → isList c = false → QC c := fun c hc w => (ih c (by omega) w).1
    cases hA : isArrow a with
    | true =>
      have q0 : Q0 a := Q0.of i0 hw (fun h => by rw [hA] at h; cases h)
      have c : isList a = false → QC a := fun hl => QC.of hw hl (fun _ => q0)
      have q2 := Q2.of i2 hw c
      exact ⟨c, q2, Q1.of i1 hw (fun _ => q2), q0⟩
    | false =>
      cases hT : isTuple a with
      | true =>
        have q1 : Q1 a := Q1.of i1 hw (fun h => by rw [hT] at h; cases h)
        have q0 : Q0 a := Q0.of i0 hw (fun _ => q1)
        have c : isList a = false → QC a := fun hl => QC.of hw hl (fun _ => q0)
        exact ⟨c, Q2.of i2 hw c, q1, q0⟩
      | false =>
        have c : isList a = false → QC a := fun hl => QC.of hw hl (fun h => by rw [hA, hT] at h; cases h)
        have q2 := Q2.of i2 hw c
        have q1 := Q1.of i1 hw (fun _ => q2)
        exact ⟨c, q2, q1, Q0.of i0 hw (fun _ => q1)⟩
theorem show_inj {a b : Sh} (ha : wf a = true) (hb : wf b = true) (e : showS 0 a = showS 0 b) : a = b :=
  ((tell _ a (Nat.lt_succ_self _) ha).2.2.2 b [] [] hb (.inl rfl) (.inl rfl) (by rw [e])).1
/-! shapes are told from their names -/
theorem name_nd {nm : Tx} {l : List Sh} (h : wf (.n nm l) = true) (i : Nat) : digits i ≠ nm := by
  obtain ⟨c, r, e, hc⟩ := digits_ne i
  rw [e]
  have g : ∀ m : Tx, (match m with | [] => true | d :: _ => !digB d) = true → c :: r ≠ m := fun m hm hh => by
    subst hh; simp [hc] at hm
  obtain ⟨hd, -⟩ := head_of h
  cases hd with
  | base h =>
    unfold baseB at h
    simp only [Bool.or_eq_true, beq_iff_eq] at h
    rcases h with rfl | rfl | rfl | rfl | rfl <;> exact g _ (by decide)
  | arrow h => subst h; exact g _ (by decide)
  | tuple h => subst h; exact g _ (by decide)
  | list h => subst h; exact g _ (by decide)
theorem name_inj : ∀ (n : Nat), (∀ a : Sh, SizeOf.sizeOf a < n → ∀ b, wf a = true → wf b = true → nameS a = nameS b → a = b) ∧ (∀ l : List Sh, SizeOf.sizeOf l < n → ∀ m, wfs l = true → wfs m = true → nameSs l = nameSs m → l = m) := by
  intro n
  induction n with
  | zero => exact ⟨fun _ h => by omega, fun _ h => by omega⟩
  | succ n ih =>
    constructor
    · intro a h b ha hb e
      cases a with
      | v i =>
        cases b with
        | v j =>
          simp only [nameS, Ty.mk.injEq] at e
          have := congrArg valD e.1
          rw [valD_digits, valD_digits] at this
          rw [this]
        | n mm k =>
          simp only [nameS, Ty.mk.injEq] at e
          exact absurd e.1 (name_nd hb i)
      | n nm l =>
        simp only [Sh.n.sizeOf_spec] at h
        cases b with
        | v j =>
          simp only [nameS, Ty.mk.injEq] at e
          exact absurd e.1.symm (name_nd ha j)
        | n mm k =>
          simp only [nameS, Ty.mk.injEq] at e
          rw [e.1, ih.2 l (by omega) k (head_of ha).2 (head_of hb).2 e.2]
    · intro l h m hl hm e
      cases l with
      | nil =>
        cases m with
        | nil => rfl
        | cons b m => simp only [nameSs] at e; cases e
      | cons a l =>
        simp only [List.cons.sizeOf_spec] at h
        cases m with
        | nil => simp only [nameSs] at e; cases e
        | cons b m =>
          simp only [nameSs, List.cons.injEq] at e
          simp only [wfs, Bool.and_eq_true] at hl hm
          rw [ih.1 a (by omega) b hl.1 hm.1 e.1, ih.2 l (by omega) m hl.2 hm.2 e.2]
theorem nameS_inj {a b : Sh} (ha : wf a = true) (hb : wf b = true) (e : nameS a = nameS b) : a = b := (name_inj _).1 a (Nat.lt_succ_self _) b ha hb e
/-! a type's shape -/
mutual
def grow (k : Nat) : Sh → Nat
  | .v i => max k (i + 1)
  | .n _ l => grows k l
def grows (k : Nat) : List Sh → Nat
  | [] => k
  | t :: l => grows (grow k t) l
end
theorem vars_pre : ∀ (n : Nat), (∀ t : Ty, SizeOf.sizeOf t < n → ∀ out, out <+: varsT out t) ∧ (∀ l : List Ty, SizeOf.sizeOf l < n → ∀ out, out <+: varsTs out l) := by
  intro n
  induction n with
  | zero => exact ⟨fun _ h => by omega, fun _ h => by omega⟩
  | succ n ih =>
    constructor
    · intro t h out
      cases t with
      | mk nm l =>
        simp only [Ty.mk.sizeOf_spec] at h
        simp only [varsT]
        split
        · split
          · exact List.prefix_rfl
          · exact List.prefix_append _ _
        · exact ih.2 l (by omega) out
    · intro l h out
      cases l with
      | nil => simp only [varsTs]; exact List.prefix_rfl
      | cons t l =>
        simp only [List.cons.sizeOf_spec] at h
        simp only [varsTs]
        exact (ih.1 t (by omega) out).trans (ih.2 l (by omega) _)
theorem vars_all : ∀ (n : Nat), (∀ t : Ty, SizeOf.sizeOf t < n → ∀ out, (∀ x ∈ out, varB x = true) → ∀ x ∈ varsT out t, varB x = true) ∧ (∀ l : List Ty, SizeOf.sizeOf l < n → ∀ out, (∀ x ∈ out, varB x = true) → ∀ x ∈ varsTs out l, varB x = true) := by
  intro n
  induction n with
  | zero => exact ⟨fun _ h => by omega, fun _ h => by omega⟩
  | succ n ih =>
    constructor
    · intro t h out ho
      cases t with
      | mk nm l =>
        simp only [Ty.mk.sizeOf_spec] at h
        simp only [varsT]
        split
        · rename_i hv
          split
          · exact ho
          · intro x hx
            rcases List.mem_append.1 hx with hx | hx
            · exact ho x hx
            · rw [List.mem_singleton.1 hx]; exact hv
        · exact ih.2 l (by omega) out ho
    · intro l h out ho
      cases l with
      | nil => simp only [varsTs]; exact ho
      | cons t l =>
        simp only [List.cons.sizeOf_spec] at h
        simp only [varsTs]
        exact ih.2 l (by omega) _ (ih.1 t (by omega) out ho)
theorem vars_cnt : ∀ (n : Nat), (∀ t : Ty, SizeOf.sizeOf t < n → ∀ out, (varsT out t).length ≤ out.length + szT t) ∧ (∀ l : List Ty, SizeOf.sizeOf l < n → ∀ out, (varsTs out l).length ≤ out.length + szTs l) := by
  intro n
  induction n with
  | zero => exact ⟨fun _ h => by omega, fun _ h => by omega⟩
  | succ n ih =>
    constructor
    · intro t h out
      cases t with
      | mk nm l =>
        simp only [Ty.mk.sizeOf_spec] at h
        simp only [varsT, szT]
        split
        · split
          · omega
          · simp only [List.length_append, List.length_cons, List.length_nil]; omega
        · have := ih.2 l (by omega) out; omega
    · intro l h out
      cases l with
      | nil => simp [varsTs, szTs]
      | cons t l =>
        simp only [List.cons.sizeOf_spec] at h
        simp only [varsTs, szTs]
        have h1 := ih.1 t (by omega) out
        have h2 := ih.2 l (by omega) (varsT out t)
        omega
theorem shapes_len (vs : List Tx) : ∀ (l : List Ty), (shapes vs l).length = l.length
  | [] => rfl
  | t :: l => by simp only [shapes, List.length_cons, shapes_len vs l]
theorem shape_ok {vs : List Tx} (hv : ∀ x ∈ vs, varB x = true) (hl : vs.length ≤ 9000) : ∀ (n : Nat),
    (∀ t : Ty, SizeOf.sizeOf t < n → ∀ out, varsT out t <+: vs → formT t = true → wf (shape vs t) = true ∧ (varsT out t).length = grow out.length (shape vs t)) ∧
    (∀ l : List Ty, SizeOf.sizeOf l < n → ∀ out, varsTs out l <+: vs → formTs l = true → wfs (shapes vs l) = true ∧ (varsTs out l).length = grows out.length (shapes vs l)) := by
  intro n
  induction n with
  | zero => exact ⟨fun _ h => by omega, fun _ h => by omega⟩
  | succ n ih =>
    constructor
    · intro t h out hp hf
      cases t with
      | mk nm l =>
        simp only [Ty.mk.sizeOf_spec] at h
        simp only [formT, Bool.and_eq_true] at hf
        simp only [varsT] at hp ⊢
        cases hb : varB nm with
        | true =>
          rw [hb] at hp
          simp only [if_true] at hp ⊢
          have hin : vs.contains nm = true := by
            rw [List.contains_iff_mem]
            split at hp
            · rename_i hc
              exact hp.subset (by simpa using hc)
            · exact hp.subset (by simp)
          have hlt : vs.idxOf nm < vs.length := List.idxOf_lt_length_iff.2 (by simpa using hin)
          simp only [shape, hin, if_true, wf, grow, decide_eq_true_eq]
          refine ⟨by omega, ?_⟩
          split
          · rename_i hc
            rw [if_pos hc] at hp
            obtain ⟨m, rfl⟩ := hp
            have hm : nm ∈ out := by simpa using hc
            have := List.idxOf_lt_length_iff.2 hm
            rw [List.idxOf_append, if_pos hm]
            omega
          · rename_i hc
            rw [if_neg hc] at hp
            obtain ⟨m, rfl⟩ := hp
            have hm : nm ∉ out := by simpa using hc
            rw [List.append_assoc, List.idxOf_append, if_neg hm, List.singleton_append, List.idxOf_cons_self]
            simp only [List.length_append, List.length_cons, List.length_nil]; omega
        | false =>
          rw [hb] at hp
          simp only [Bool.false_eq_true, if_false] at hp ⊢
          have hin : ¬ vs.contains nm = true := by
            intro hc
            rw [List.contains_iff_mem] at hc
            rw [hv nm hc] at hb
            cases hb
          simp only [shape, if_neg hin, wf, grow, hb, shapes_len, hf.1, Bool.not_false, Bool.and_self, Bool.true_and]
          exact ih.2 l (by omega) out hp hf.2
    · intro l h out hp hf
      cases l with
      | nil => simp [varsTs, shapes, wfs, grows]
      | cons t l =>
        simp only [List.cons.sizeOf_spec] at h
        simp only [formTs, Bool.and_eq_true] at hf
        simp only [varsTs] at hp ⊢
        obtain ⟨h1, h2⟩ := ih.1 t (by omega) out (((vars_pre _).2 l (Nat.lt_succ_self _) _).trans hp) hf.1
        obtain ⟨h3, h4⟩ := ih.2 l (by omega) _ hp hf.2
        simp only [shapes, wfs, grows, h1, h3, Bool.and_self, true_and]
        rw [h4, h2]
/-! the same? -/
mutual
def sameT : Ty → Ty → Bool
  | .mk n l, .mk m k => n == m && sameTs l k
def sameTs : List Ty → List Ty → Bool
  | [], [] => true
  | a :: l, b :: k => sameT a b && sameTs l k
  | _, _ => false
end
theorem same_iff : ∀ (n : Nat), (∀ a : Ty, SizeOf.sizeOf a < n → ∀ b, sameT a b = true ↔ a = b) ∧ (∀ l : List Ty, SizeOf.sizeOf l < n → ∀ m, sameTs l m = true ↔ l = m) := by
  intro n
  induction n with
  | zero => exact ⟨fun _ h => by omega, fun _ h => by omega⟩
  | succ n ih =>
    constructor
    · intro a h b
      cases a with
      | mk x l =>
        cases b with
        | mk y k =>
          simp only [Ty.mk.sizeOf_spec] at h
          simp only [sameT, Bool.and_eq_true, beq_iff_eq, Ty.mk.injEq, ih.2 l (by omega) k]
    · intro l h m
      cases l with
      | nil => cases m <;> simp [sameTs]
      | cons a l =>
        simp only [List.cons.sizeOf_spec] at h
        cases m with
        | nil => simp [sameTs]
        | cons b m => simp only [sameTs, Bool.and_eq_true, List.cons.injEq, ih.1 a (by omega) b, ih.2 l (by omega) m]
theorem sameT_iff (a b : Ty) : sameT a b = true ↔ a = b := (same_iff _).1 a (Nat.lt_succ_self _) b
theorem texts_law {a b : Ty} (ha : mayT a = true) (hb : mayT b = true) :
    (textT a == textT b) = (((varsT [] a).length == (varsT [] b).length) && sameT (namedT (varsT [] a) a) (namedT (varsT [] b) b)) := by
  have ok : ∀ {t : Ty}, mayT t = true → wf (shape (varsT [] t) t) = true ∧ (varsT [] t).length = grow 0 (shape (varsT [] t) t) := fun {t} ht => by
    simp only [mayT, Bool.and_eq_true, decide_eq_true_eq] at ht
    have h1 := (vars_cnt _).1 t (Nat.lt_succ_self _) []
    simp only [List.length_nil] at h1
    exact (shape_ok (fun x hx => (vars_all _).1 t (Nat.lt_succ_self _) [] (fun _ h => by cases h) x hx) (by omega) _).1 t (Nat.lt_succ_self _) [] List.prefix_rfl ht.2
  obtain ⟨wa, la⟩ := ok ha
  obtain ⟨wb, lb⟩ := ok hb
  have e1 : textT a = showS 0 (shape (varsT [] a) a) := by rw [textT, if_pos ha, showT_shape]
  have e2 : textT b = showS 0 (shape (varsT [] b) b) := by rw [textT, if_pos hb, showT_shape]
  rw [e1, e2, namedT_shape, namedT_shape, la, lb]
  rw [Bool.eq_iff_iff, Bool.and_eq_true, sameT_iff, beq_iff_eq, beq_iff_eq]
  constructor
  · intro h
    rw [show_inj wa wb h]
    exact ⟨rfl, rfl⟩
  · intro h
    rw [nameS_inj wa wb h.2]
end Go.Ty
