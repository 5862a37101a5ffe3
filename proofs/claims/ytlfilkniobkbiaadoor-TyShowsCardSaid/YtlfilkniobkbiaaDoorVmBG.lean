/-
  A part of the proof.
-/
import Derived.Test.YtlfilkniobkbiaaDoorVmBE
import Derived.Lib.SlTrimSet
import Derived.Lib.Join
import Derived.Lib.ItoaNum
set_option linter.unusedSimpArgs false
/- strings.Trim, strings.Join, strconv.Itoa, by their contracts. -/
namespace Go.VM
open Go.RowKit
section
variable {P : Program} {T : TT} {G : Nat → Option (List AV)} {A : Nat → Prop} {g : Gh} {st : St} {w : World}
def libTrim : List AV → Res AV
  | [.str s, .str c] => match c.length.blt 4294967281 && c.all (fun b => b.toNat.blt 128) && s.length.ble 9223372036854775807 with
    | true => .ok (.str (Lib.trimS s c))
    | false => .error "Trim: no ASCII"
  | _ => .error "Trim"
theorem trim_prim {f : FuncId} (hcall : ∀ args w, (callFunc f args).run P w = .ok (.enter f args) w)
    (h : ∀ (s c : ByteArray) (w : World), s.size ≤ 9223372036854775807 → c.size < 4294967281 → (∀ (j : Nat) b, c.data.toList[j]? = some b → b.toNat < 128) → Calls P f #[.string s, .string c] w fun e w' => e = .returned (.string ⟨(Lib.trimS s.data.toList c.data.toList).toArray⟩) ∧ Below w.heap.size w w') : OnePrim P T G f (.lib libTrim) := by
  refine lib_prim hcall fun args v hF A g st w xs _ hx _ => ?_
  unfold libTrim at hF
  split at hF
  · rename_i s c
    split at hF
    · rename_i hk
      cases hF
      simp only [Bool.and_eq_true] at hk
      obtain ⟨x, y, rfl, h1, h2⟩ := RL2 hx
      rw [str_of h1, str_of h2]
      refine (h ⟨s.toArray⟩ ⟨c.toArray⟩ w (by simpa [ByteArray.size] using Nat.le_of_ble_eq_true hk.2) (by simpa [ByteArray.size] using blt_true.1 hk.1.1) fun j b hb => ?_).mono ?_
      · exact blt_true.1 (List.all_eq_true.1 hk.1.2 b (List.mem_of_getElem? (by simpa using hb)))
      · rintro e w' ⟨rfl, hB⟩
        exact ⟨⟨_, rfl, R_str _⟩, hB⟩
    · cases hF
  · cases hF
def libItoa : List AV → Res AV
  | [.int .i64 n] => match n with
    | .ofNat k => match k.blt 100 with
      | true => .ok (.str (Lib.decDigits k))
      | false => .error "Itoa: great"
    | .negSucc _ => .error "Itoa: below 0"
  | _ => .error "Itoa"
theorem itoa_prim {f : FuncId} (hcall : ∀ args w, (callFunc f args).run P w = .ok (.enter f args) w)
    (h : ∀ (i : Nat) (w : World), i < 100 → Calls P f #[.int .i64 i] w fun e w' => e = .returned (.string ⟨(Lib.decDigits i).toArray⟩) ∧ w' = w) : OnePrim P T G f (.lib libItoa) := by
  refine lib_prim hcall fun args v hF A g st w xs _ hx _ => ?_
  unfold libItoa at hF
  split at hF
  · rename_i n
    cases n with
    | ofNat k =>
      dsimp only at hF
      split at hF
      · rename_i hk
        cases hF
        obtain ⟨x, rfl, h1⟩ := RL1 hx
        rw [int_of h1]
        refine (h k w (blt_true.1 hk)).mono ?_
        rintro e w' ⟨rfl, rfl⟩
        exact ⟨⟨_, rfl, R_str _⟩, Below.refl _ _⟩
      · cases hF
    | negSucc k => cases hF
  · cases hF
def strsOf : List AV → Res (List (List UInt8))
  | [] => .ok []
  | .str s :: l => match strsOf l with
    | .ok r => .ok (s :: r)
    | .error e => .error e
  | _ :: _ => .error "strings"
theorem strsOf_eq : ∀ {l : List AV} {r : List (List UInt8)}, strsOf l = .ok r → l = r.map AV.str
  | [], r, h => by cases h; rfl
  | v :: l, r, h => by
    unfold strsOf at h
    split at h
    · rename_i heq; cases heq
    · rename_i s l' heq
      cases heq
      split at h
      · rename_i r' hr
        cases h
        rw [strsOf_eq hr]; rfl
      · cases h
    · cases h
def libJoin : List AV → Res AV
  | [.nils, .str _] => .ok (.str [])
  | [.sl 1 es _, .str sep] => match strsOf es with
    | .ok r => match (Lib.join r sep).length.ble 140737488355328 && r.length.ble 140737488355328 with
      | true => .ok (.str (Lib.join r sep))
      | false => .error "Join: long"
    | .error e => .error e
  | _ => .error "Join"
theorem join_prim {f : FuncId} (hcall : ∀ args w, (callFunc f args).run P w = .ok (.enter f args) w)
    (h0 : ∀ (a : Option Addr) (c : Nat) (sep : ByteArray) (w : World), Calls P f #[.slice a 0 c, .string sep] w fun e w' => e = .returned (.string ⟨#[]⟩) ∧ w' = w)
    (h : ∀ (bk o c : Nat) (xs : List ByteArray) (sep : ByteArray) (w : World), (∀ (j : Nat) x, xs[j]? = some x → w.cell? ⟨bk, o + j, none⟩ = some (.string x)) → bk < w.heap.size → xs.length ≤ 140737488355328 → xs.length ≤ c → (Lib.join (xs.map (·.data.toList)) sep.data.toList).length ≤ 140737488355328 →
      Calls P f #[.slice (some ⟨bk, o, none⟩) xs.length c, .string sep] w fun e w' => e = .returned (.string ⟨(Lib.join (xs.map (·.data.toList)) sep.data.toList).toArray⟩) ∧ Below w.heap.size w w') : OnePrim P T G f (.lib libJoin) := by
  refine lib_prim hcall fun args v hF A g st w xs _ hx hi => ?_
  unfold libJoin at hF
  split at hF
  · rename_i sep
    cases hF
    obtain ⟨x, y, rfl, h1, h2⟩ := RL2 hx
    simp only [R] at h1
    subst h1
    rw [str_of h2]
    refine (h0 none 0 _ w).mono ?_
    rintro e w' ⟨rfl, rfl⟩
    exact ⟨⟨_, rfl, R_str _⟩, Below.refl _ _⟩
  · rename_i es p sep
    split at hF
    · rename_i r hr
      have hes := strsOf_eq hr
      subst hes
      split at hF
      · rename_i hk
        cases hF
        simp only [Bool.and_eq_true] at hk
        have k1 := Nat.le_of_ble_eq_true hk.1
        have k2 := Nat.le_of_ble_eq_true hk.2
        obtain ⟨x, y, rfl, h1, h2⟩ := RL2 hx
        rw [str_of h2]
        simp only [R] at h1
        obtain ⟨_, b, o, cap, rfl, hcap, _, hat, _⟩ := h1
        rw [List.length_map] at hcap ⊢
        have cell : ∀ (l : List (List UInt8)) (o : Nat), RAtE g 1 (l.map AV.str) b o → ∀ (j : Nat) s, l[j]? = some s → w.cell? ⟨b, o + j, none⟩ = some (.string ⟨s.toArray⟩) := by
          intro l
          induction l with
          | nil => intro o _ j s hj; simp at hj
          | cons t l ih =>
            intro o ht j s hj
            rw [List.map_cons, RAtE_cons] at ht
            obtain ⟨_, h2, h3⟩ := ht
            cases j with
            | zero =>
              simp at hj; subst hj
              simp only [AV.cells, RAt] at h2
              obtain ⟨⟨x, q1, _, q3⟩, _⟩ := h2
              rw [str_of q3] at q1
              exact hi.F _ _ _ q1
            | succ j =>
              have := ih (o + 1) h3 j s (by simpa using hj)
              rw [show o + (j + 1) = o + 1 + j by omega]; exact this
        have hm : (r.map fun s => (⟨s.toArray⟩ : ByteArray)).map (·.data.toList) = r := by simp [Function.comp_def]
        by_cases hne : r = []
        · subst hne
          refine (h0 _ _ _ w).mono ?_
          rintro e w' ⟨rfl, rfl⟩
          exact ⟨⟨_, rfl, by simp only [R, Lib.join]; rfl⟩, Below.refl _ _⟩
        · obtain ⟨t, r', rfl⟩ := List.exists_cons_of_ne_nil hne
          have hb : b < w.heap.size := by
            have := cell _ o hat 0 t rfl
            obtain ⟨vs, ty, fz, h3, _⟩ := cells_of this
            exact lt_of_heap h3
          have := h b o cap ((t :: r').map fun s => (⟨s.toArray⟩ : ByteArray)) ⟨sep.toArray⟩ w (fun j x hj => by
            rw [List.getElem?_map, Option.map_eq_some_iff] at hj
            obtain ⟨s, q, rfl⟩ := hj
            exact cell _ o hat j s q) hb (by rw [List.length_map]; exact k2) (by rw [List.length_map]; exact hcap) (by rw [hm]; exact k1)
          rw [hm, List.length_map] at this
          refine this.mono ?_
          rintro e w' ⟨rfl, hB⟩
          exact ⟨⟨_, rfl, R_str _⟩, hB⟩
      · cases hF
    · cases hF
  · cases hF
end
end Go.VM
/- Types: what they are, whether they may be, their text; plain Lean. -/
namespace Go.Ty
open Go.VM
abbrev Tx := List UInt8
inductive Ty where
  | mk (nm : Tx) (l : List Ty)
  deriving Inhabited
def sInt : Tx := [105, 110, 116]
def sFloat : Tx := [102, 108, 111, 97, 116]
def sBool : Tx := [98, 111, 111, 108]
def sString : Tx := [115, 116, 114, 105, 110, 103]
def sUnit : Tx := [117, 110, 105, 116]
def sArrow : Tx := [45, 62]
def sTuple : Tx := [116, 117, 112, 108, 101]
def sList : Tx := [108, 105, 115, 116]
def idB (b : UInt8) : Bool := (97 ≤ b.toNat && b.toNat ≤ 122) || (48 ≤ b.toNat && b.toNat ≤ 57)
/-- A variable's name. -/
def varB (s : Tx) : Bool := (decide (2 ≤ s.length) && decide (s.length ≤ 65)) && (s.head? == some 39 && (s.drop 1).all idB)
mutual
def szT : Ty → Nat
  | .mk _ l => 1 + szTs l
def szTs : List Ty → Nat
  | [] => 0
  | t :: l => szT t + szTs l
end
theorem szTs_len : ∀ (l : List Ty), l.length ≤ szTs l
  | [] => Nat.le_refl _
  | .mk _ a :: l => by
    have := szTs_len l
    simp only [szTs, szT, List.length_cons]; omega
theorem szTs_app (a b : List Ty) : szTs (a ++ b) = szTs a + szTs b := by
  induction a with
  | nil => simp [szTs]
  | cons t l ih => simp only [List.cons_append, szTs, ih]; omega
def baseB (nm : Tx) : Bool := nm == sInt || (nm == sFloat || (nm == sBool || (nm == sString || nm == sUnit)))
def nameOk (nm : Tx) (n : Nat) : Bool :=
  cond (baseB nm) ((n : Int) == 0) (cond (nm == sArrow) ((n : Int) == 2) (cond (nm == sTuple) (decide ((n : Int) ≥ 2)) (cond (nm == sList) ((n : Int) == 1) ((n : Int) == 0 && varB nm))))
mutual
def formT : Ty → Bool
  | .mk nm l => nameOk nm l.length && formTs l
def formTs : List Ty → Bool
  | [] => true
  | t :: l => formT t && formTs l
end
def mayT (t : Ty) : Bool := decide (szT t ≤ 512) && formT t
mutual
/-- The variables, as they stand first, behind others. -/
def varsT (out : List Tx) : Ty → List Tx
  | .mk nm l => if varB nm = true then (if out.contains nm = true then out else out ++ [nm]) else varsTs out l
def varsTs (out : List Tx) : List Ty → List Tx
  | [] => out
  | t :: l => varsTs (varsT out t) l
end
def digF : Nat → Nat → Tx
  | 0, _ => []
  | f + 1, n => if n < 10 then [UInt8.ofNat (48 + n)] else digF f (n / 10) ++ [UInt8.ofNat (48 + n % 10)]
def digits (n : Nat) : Tx := digF (n + 1) n
def letter (i : Nat) : Tx := (39 :: [UInt8.ofNat (97 + i % 26)]) ++ (if 26 ≤ i then digits (i / 26) else [])
/-- How close an argument must bind. -/
def closeA (nm : Tx) (i : Nat) : Nat := if nm = sArrow then (if i = 0 then 1 else 0) else 2
def ownB (nm : Tx) : Nat := if nm = sArrow then 0 else if nm = sTuple then 1 else 2
def sepT : Tx := [32, 42, 32]
def bodyT (nm : Tx) (L : List Tx) : Tx :=
  if nm = sArrow then L.getD 0 [] ++ [32, 45, 62, 32] ++ L.getD 1 []
  else if nm = sTuple then sepT.intercalate L
  else if nm = sList then L.getD 0 [] ++ [32, 108, 105, 115, 116]
  else nm
def wrapT (own close : Nat) (s : Tx) : Tx := if own < close then (40 :: s) ++ [41] else s
mutual
def showT (vs : List Tx) (close : Nat) : Ty → Tx
  | .mk nm l => if vs.contains nm = true then letter (vs.idxOf nm) else wrapT (ownB nm) close (bodyT nm (showTs vs nm 0 l))
def showTs (vs : List Tx) (nm : Tx) (i : Nat) : List Ty → List Tx
  | [] => []
  | t :: l => showT vs (closeA nm i) t :: showTs vs nm (i + 1) l
end
def textT (t : Ty) : Tx := if mayT t = true then showT (varsT [] t) 0 t else []
theorem showTs_len (vs : List Tx) (nm : Tx) : ∀ (l : List Ty) (i : Nat), (showTs vs nm i l).length = l.length
  | [], _ => rfl
  | t :: l, i => by simp only [showTs, List.length_cons, showTs_len vs nm l (i + 1)]
theorem digF_len : ∀ (f n : Nat), n < 10 ^ 3 → (digF f n).length ≤ 3
  | 0, _, _ => by simp [digF]
  | 1, n, _ => by unfold digF; split <;> simp [digF]
  | 2, n, _ => by
    unfold digF
    split
    · simp
    · have := digF_len 1 (n / 10) (by omega)
      have h1 : (digF 1 (n / 10)).length ≤ 1 := by unfold digF; split <;> simp [digF]
      simp; omega
  | f + 3, n, h => by
    unfold digF
    split
    · simp
    · unfold digF
      split
      · simp
      · unfold digF
        rw [if_pos (by omega)]; simp
theorem letter_len {i : Nat} (h : i < 10000) : (letter i).length ≤ 5 := by
  unfold letter digits
  have := digF_len (i / 26 + 1) (i / 26) (by omega)
  split <;> simp <;> omega
def lenL (L : List Tx) : Nat := (L.map List.length).sum
theorem inter_len (s : Tx) : ∀ (L : List Tx), (s.intercalate L).length ≤ lenL L + s.length * L.length
  | [] => by simp [List.intercalate]
  | [x] => by simp [List.intercalate, List.intersperse, lenL]
  | x :: y :: L => by
    have ih := inter_len s (y :: L)
    have e : s.intercalate (x :: y :: L) = x ++ (s ++ s.intercalate (y :: L)) := by simp [List.intercalate, List.intersperse]
    rw [e]
    simp only [lenL, List.map_cons, List.sum_cons, List.length_cons, List.length_append] at ih ⊢
    rw [Nat.mul_add s.length (L.length + 1) 1]
    omega
theorem mem_sum : ∀ {L : List Tx} {x : Tx}, x ∈ L → x.length ≤ lenL L
  | y :: L, x, h => by
    simp only [lenL, List.map_cons, List.sum_cons]
    rcases List.mem_cons.1 h with rfl | h
    · omega
    · have := mem_sum h
      unfold lenL at this
      omega
theorem bodyT_len (nm : Tx) (L : List Tx) : (bodyT nm L).length ≤ nm.length + lenL L + 5 + 3 * L.length := by
  have g : ∀ i, (L.getD i []).length ≤ lenL L := fun i => by
    rw [List.getD_eq_getElem?_getD]
    cases h : L[i]? with
    | none => simp
    | some x =>
      simp only [Option.getD_some]
      exact mem_sum (List.mem_of_getElem? h)
  have g2 : (L.getD 0 []).length + (L.getD 1 []).length ≤ lenL L := by
    match L with
    | [] => simp [lenL]
    | [x] => simp [lenL]
    | x :: y :: L => simp [lenL]
  unfold bodyT
  split
  · simp only [List.length_append, List.length_cons, List.length_nil]; omega
  · split
    · have := inter_len sepT L
      have hs : sepT.length = 3 := rfl
      rw [hs] at this
      omega
    · split
      · have := g 0
        simp only [List.length_append, List.length_cons, List.length_nil]; omega
      · omega
theorem wrapT_len (a b : Nat) (s : Tx) : (wrapT a b s).length ≤ s.length + 2 := by
  unfold wrapT; split <;> simp
theorem nameOk_len {nm : Tx} {n : Nat} (h : nameOk nm n = true) : nm.length ≤ 65 := by
  unfold nameOk at h
  cases h1 : baseB nm with
  | true =>
    unfold baseB at h1
    simp only [Bool.or_eq_true, beq_iff_eq] at h1
    rcases h1 with rfl | rfl | rfl | rfl | rfl <;> decide
  | false =>
    rw [h1, cond_false] at h
    cases h2 : nm == sArrow with
    | true => rw [beq_iff_eq.1 h2]; decide
    | false =>
      rw [h2, cond_false] at h
      cases h3 : nm == sTuple with
      | true => rw [beq_iff_eq.1 h3]; decide
      | false =>
        rw [h3, cond_false] at h
        cases h4 : nm == sList with
        | true => rw [beq_iff_eq.1 h4]; decide
        | false =>
          rw [h4, cond_false] at h
          simp only [Bool.and_eq_true, varB, decide_eq_true_eq] at h
          omega
theorem show_len (vs : List Tx) (hv : vs.length ≤ 10000) : ∀ (n : Nat), (∀ t : Ty, SizeOf.sizeOf t < n → formT t = true → ∀ c, (showT vs c t).length + 3 ≤ 100 * szT t) ∧ (∀ l : List Ty, SizeOf.sizeOf l < n → formTs l = true → ∀ nm i, lenL (showTs vs nm i l) + 3 * l.length ≤ 100 * szTs l) := by
  intro n
  induction n with
  | zero => exact ⟨fun _ h => by omega, fun _ h => by omega⟩
  | succ n ih =>
    constructor
    · intro t h hf c
      cases t with
      | mk nm l =>
        simp only [Ty.mk.sizeOf_spec] at h
        simp only [formT, Bool.and_eq_true] at hf
        simp only [showT, szT]
        split
        · rename_i hc
          have : vs.idxOf nm < vs.length := List.idxOf_lt_length_iff.2 (by simpa using hc)
          have := letter_len (i := vs.idxOf nm) (by omega)
          omega
        · have h1 := wrapT_len (ownB nm) c (bodyT nm (showTs vs nm 0 l))
          have h2 := bodyT_len nm (showTs vs nm 0 l)
          have h3 := nameOk_len hf.1
          have h4 := ih.2 l (by omega) hf.2 nm 0
          have h5 := szTs_len l
          have h7 := showTs_len vs nm l 0
          -- each element is at least ..
          omega
    · intro l h hf nm i
      cases l with
      | nil => simp [showTs, lenL]
      | cons t l =>
        simp only [List.cons.sizeOf_spec] at h
        simp only [formTs, Bool.and_eq_true] at hf
        have h1 := ih.1 t (by omega) hf.1 (closeA nm i)
        have h2 := ih.2 l (by omega) hf.2 nm (i + 1)
        simp only [showTs, szTs, lenL, List.map_cons, List.sum_cons, List.length_cons] at h2 ⊢
        omega
theorem showT_len {vs : List Tx} (hv : vs.length ≤ 10000) {t : Ty} (h : formT t = true) (c : Nat) : (showT vs c t).length + 3 ≤ 100 * szT t := (show_len vs hv _).1 t (Nat.lt_succ_self _) h c
end Go.Ty
