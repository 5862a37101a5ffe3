/-
  A part of the proof.
-/
import Derived.Test.YtlfilkniobkbiaaDoorVmBE
import Derived.Lib.SlTrimSet
import Derived.Lib.Join
import Derived.Lib.ItoaNum
set_option linter.unusedSimpArgs false
/- strings.Trim, strings.Join, strconv.Itoa, by their contracts. -/
namespace Go.VM
open Go.RowKit
section
variable {P : Program} {T : TT} {G : Nat → Option (List AV)} {A : Nat → Prop} {g : Gh} {st : St} {w : World}
def libTrim : List AV → Res AV
  | [.str s, .str c] => match c.length.blt 4294967281 && c.all (fun b => b.toNat.blt 128) && s.length.ble 9223372036854775807 with
    | true => .ok (.str (Lib.trimS s c))
    | false => .error "Trim: no ASCII"
  | _ => .error "Trim"
theorem trim_prim {f : FuncId} (hcall : ∀ args w, (callFunc f args).run P w = .ok (.enter f args) w)
    (h : ∀ (s c : ByteArray) (w : World), s.size ≤ 9223372036854775807 → c.size < 4294967281 → (∀ (j : Nat) b, c.data.toList[j]? = some b → b.toNat < 128) → Calls P f #[.string s, .string c] w fun e w' => e = .returned (.string ⟨(Lib.trimS s.data.toList c.data.toList).toArray⟩) ∧ Below w.heap.size w w') : OnePrim P T G f (.lib libTrim) := by
  refine lib_prim hcall fun args v hF A g st w xs _ hx _ => ?_
  unfold libTrim at hF
  split at hF
  · rename_i s c
    split at hF
    · rename_i hk
      cases hF
      simp only [Bool.and_eq_true] at hk
      obtain ⟨x, y, rfl, h1, h2⟩ := RL2 hx
      rw [str_of h1, str_of h2]
      refine (h ⟨s.toArray⟩ ⟨c.toArray⟩ w (by simpa [ByteArray.size] using Nat.le_of_ble_eq_true hk.2) (by simpa [ByteArray.size] using blt_true.1 hk.1.1) fun j b hb => ?_).mono ?_
      · exact blt_true.1 (List.all_eq_true.1 hk.1.2 b (List.mem_of_getElem? (by simpa using hb)))
      · rintro e w' ⟨rfl, hB⟩
        exact ⟨⟨_, rfl, R_str _⟩, hB⟩
    · cases hF
  · cases hF
def libItoa : List AV → Res AV
  | [.int .i64 n] => match n with
    | .ofNat k => match k.blt 100 with
      | true => .ok (.str (Lib.decDigits k))
      | false => .error "Itoa: great"
    | .negSucc _ => .error "Itoa: below 0"
  | _ => .error "Itoa"
theorem itoa_prim {f : FuncId} (hcall : ∀ args w, (callFunc f args).run P w = .ok (.enter f args) w)
    (h : ∀ (i : Nat) (w : World), i < 100 → Calls P f #[.int .i64 i] w fun e w' => e = .returned (.string ⟨(Lib.decDigits i).toArray⟩) ∧ w' = w) : OnePrim P T G f (.lib libItoa) := by
  refine lib_prim hcall fun args v hF A g st w xs _ hx _ => ?_
  unfold libItoa at hF
  split at hF
  · rename_i n
    cases n with
    | ofNat k =>
      dsimp only at hF
      split at hF
      · rename_i hk
        cases hF
        obtain ⟨x, rfl, h1⟩ := RL1 hx
        rw [int_of h1]
        refine (h k w (blt_true.1 hk)).mono ?_
        rintro e w' ⟨rfl, rfl⟩
        exact ⟨⟨_, rfl, R_str _⟩, Below.refl _ _⟩
      · cases hF
    | negSucc k => cases hF
  · cases hF
def strsOf : List AV → Res (List (List UInt8))
  | [] => .ok []
  | .str s :: l => match strsOf l with
    | .ok r => .ok (s :: r)
    | .error e => .error e
  | _ :: _ => .error "strings"
theorem strsOf_eq : ∀ {l : List AV} {r : List (List UInt8)}, strsOf l = .ok r → l = r.map AV.str
  | [], r, h => by cases h; rfl
  | v :: l, r, h => by
    unfold strsOf at h
    split at h
    · rename_i heq; cases heq
    · rename_i s l' heq
      cases heq
      split at h
      · rename_i r' hr
        cases h
        rw [strsOf_eq hr]; rfl
      · cases h
    · cases h
def libJoin : List AV → Res AV
  | [.nils, .str _] => .ok (.str [])
  | [.sl 1 es _, .str sep] => match strsOf es with
    | .ok r => match (Lib.join r sep).length.ble 140737488355328 && r.length.ble 140737488355328 with
      | true => .ok (.str (Lib.join r sep))
      | false => .error "Join: long"
    | .error e => .error e
  | _ => .error "Join"
theorem join_prim {f : FuncId} (hcall : ∀ args w, (callFunc f args).run P w = .ok (.enter f args) w)
    (h0 : ∀ (a : Option Addr) (c : Nat) (sep : ByteArray) (w : World), Calls P f #[.slice a 0 c, .string sep] w fun e w' => e = .returned (.string ⟨#[]⟩) ∧ w' = w)
    (h : ∀ (bk o c : Nat) (xs : List ByteArray) (sep : ByteArray) (w : World), (∀ (j : Nat) x, xs[j]? = some x → w.cell? ⟨bk, o + j, none⟩ = some (.string x)) → bk < w.heap.size → xs.length ≤ 140737488355328 → xs.length ≤ c → (Lib.join (xs.map (·.data.toList)) sep.data.toList).length ≤ 140737488355328 →
      Calls P f #[.slice (some ⟨bk, o, none⟩) xs.length c, .string sep] w fun e w' => e = .returned (.string ⟨(Lib.join (xs.map (·.data.toList)) sep.data.toList).toArray⟩) ∧ Below w.heap.size w w') : OnePrim P T G f (.lib libJoin) := by
  refine lib_prim hcall fun args v hF A g st w xs _ hx hi => ?_
  unfold libJoin at hF
  split at hF
  · rename_i sep
    cases hF
    obtain ⟨x, y, rfl, h1, h2⟩ := RL2 hx
    simp only [R] at h1
    subst h1
    rw [str_of h2]
    refine (h0 none 0 _ w).mono ?_
    rintro e w' ⟨rfl, rfl⟩
    exact ⟨⟨_, rfl, R_str _⟩, Below.refl _ _⟩
  · rename_i es p sep
    split at hF
    · rename_i r hr
      have hes := strsOf_eq hr
      subst hes
      split at hF
      · rename_i hk
        cases hF
        simp only [Bool.and_eq_true] at hk
        have k1 := Nat.le_of_ble_eq_true hk.1
        have k2 := Nat.le_of_ble_eq_true hk.2
        obtain ⟨x, y, rfl, h1, h2⟩ := RL2 hx
        rw [str_of h2]
        simp only [R] at h1
        obtain ⟨_, b, o, cap, rfl, hcap, _, hat, _⟩ := h1
        rw [List.length_map] at hcap ⊢
        have cell : ∀ (l : List (List UInt8)) (o : Nat), RAtE g 1 (l.map AV.str) b o → ∀ (j : Nat) s, l[j]? = some s → w.cell? ⟨b, o + j, none⟩ = some (.string ⟨s.toArray⟩) := by
          intro l
          induction l with
          | nil => intro o _ j s hj; simp at hj
          | cons t l ih =>
            intro o ht j s hj
            rw [List.map_cons, RAtE_cons] at ht
            obtain ⟨_, h2, h3⟩ := ht
            cases j with
            | zero =>
              simp at hj; subst hj
              simp only [AV.cells, RAt] at h2
              obtain ⟨⟨x, q1, _, q3⟩, _⟩ := h2
              rw [str_of q3] at q1
              exact hi.F _ _ _ q1
            | succ j =>
              have := ih (o + 1) h3 j s (by simpa using hj)
              rw [show o + (j + 1) = o + 1 + j by omega]; exact this
        have hm : (r.map fun s => (⟨s.toArray⟩ : ByteArray)).map (·.data.toList) = r := by simp [Function.comp_def]
        by_cases hne : r = []
        · subst hne
          refine (h0 _ _ _ w).mono ?_
          rintro e w' ⟨rfl, rfl⟩
          exact ⟨⟨_, rfl, by simp only [R, Lib.join]; rfl⟩, Below.refl _ _⟩
        · obtain ⟨t, r', rfl⟩ := List.exists_cons_of_ne_nil hne
          have hb : b < w.heap.size := by
            have := cell _ o hat 0 t rfl
            obtain ⟨vs, ty, fz, h3, _⟩ := cells_of this
            exact lt_of_heap h3
          have := h b o cap ((t :: r').map fun s => (⟨s.toArray⟩ : ByteArray)) ⟨sep.toArray⟩ w (fun j x hj => by
            rw [List.getElem?_map, Option.map_eq_some_iff] at hj
            obtain ⟨s, q, rfl⟩ := hj
            exact cell _ o hat j s q) hb (by rw [List.length_map]; exact k2) (by rw [List.length_map]; exact hcap) (by rw [hm]; exact k1)
          rw [hm, List.length_map] at this
          refine this.mono ?_
          rintro e w' ⟨rfl, hB⟩
          exact ⟨⟨_, rfl, R_str _⟩, hB⟩
      · cases hF
    · cases hF
  · cases hF
end
end Go.VM
/- Types: what they are, whether they may be, their text; plain Lean. -/
namespace Go.Ty
open Go.VM
abbrev Tx := List UInt8
inductive Ty where
  | mk (nm : Tx) (l : List Ty)
  deriving Inhabited
def sInt : Tx := [105, 110, 116]
def sFloat : Tx := [102, 108, 111, 97, 116]
def sBool : Tx := [98, 111, 111, 108]
def sString : Tx := [115, 116, 114, 105, 110, 103]
def sUnit : Tx := [117, 110, 105, 116]
def sArrow : Tx := [45, 62]
def sTuple : Tx := [116, 117, 112, 108, 101]
def sList : Tx := [108, 105, 115, 116]
def idB (b : UInt8) : Bool := (97 ≤ b.toNat && b.toNat ≤ 122) || (48 ≤ b.toNat && b.toNat ≤ 57)
/-- A variable's name. -/
def varB (s : Tx) : Bool := (decide (2 ≤ s.length) && decide (s.length ≤ 65)) && (s.head? == some 39 && (s.drop 1).all idB)
mutual
def szT : Ty → Nat
  | .mk _ l => 1 + szTs l
def szTs : List Ty → Nat
  | [] => 0
  | t :: l => szT t + szTs l
end
theorem szTs_len : ∀ (l : List Ty), l.length ≤ szTs l
  | [] => Nat.le_refl _
  | .mk _ a :: l => by
    have := szTs_len l
    simp only [szTs, szT, List.length_cons]; omega
theorem szTs_app (a b : List Ty) : szTs (a ++ b) = szTs a + szTs b := by
  induction a with
  | nil => simp [szTs]
  | cons t l ih => simp only [List.cons_append, szTs, ih]; omega
def baseB (nm : Tx) : Bool := nm == sInt || (nm == sFloat || (nm == sBool || (nm == sString || nm == sUnit)))
def nameOk (nm : Tx) (n : Nat) : Bool :=
  cond (baseB nm) ((n : Int) == 0) (cond (nm == sArrow) ((n : Int) == 2) (cond (nm == sTuple) (decide ((n : Int) ≥ 2)) (cond (nm == sList) ((n : Int) == 1) ((n : Int) == 0 && varB nm))))
mutual
def formT : Ty → Bool
  | .mk nm l => nameOk nm l.length && formTs l
def formTs : List Ty → Bool
  | [] => true
  | t :: l => formT t && formTs l
end
def mayT (t : Ty) : Bool := decide (szT t ≤ 512) && formT t
def digF : Nat → Nat → Tx
  | 0, _ => []
  | f + 1, n => if n < 10 then [UInt8.ofNat (48 + n)] else digF f (n / 10) ++ [UInt8.ofNat (48 + n % 10)]
def digits (n : Nat) : Tx := digF (n + 1) n
def letter (i : Nat) : Tx := (39 :: [UInt8.ofNat (97 + i % 26)]) ++ (if 26 ≤ i then digits (i / 26) else [])
/-- How close an argument must bind. -/
def closeA (nm : Tx) (i : Nat) : Nat := if nm = sArrow then (if i = 0 then 1 else 0) else 2
def ownB (nm : Tx) : Nat := if nm = sArrow then 0 else if nm = sTuple then 1 else 2
def sepT : Tx := [32, 42, 32]
def bodyT (nm : Tx) (L : List Tx) : Tx :=
  if nm = sArrow then L.getD 0 [] ++ [32, 45, 62, 32] ++ L.getD 1 []
  else if nm = sTuple then sepT.intercalate L
  else if nm = sList then L.getD 0 [] ++ [32, 108, 105, 115, 116]
  else nm
def wrapT (own close : Nat) (s : Tx) : Tx := if own < close then (40 :: s) ++ [41] else s
theorem digF_len : ∀ (f n : Nat), n < 10 ^ 3 → (digF f n).length ≤ 3
  | 0, _, _ => by simp [digF]
  | 1, n, _ => by unfold digF; split <;> simp [digF]
  | 2, n, _ => by
    unfold digF
    split
    · simp
    · have := digF_len 1 (n / 10) (by omega)
      have h1 : (digF 1 (n / 10)).length ≤ 1 := by unfold digF; split <;> simp [digF]
      simp; omega
  | f + 3, n, h => by
    unfold digF
    split
    · simp
    · unfold digF
      split
      · simp
      · unfold digF
        rw [if_pos (by omega)]; simp
end Go.Ty
/- Types have the same text just if they are the same but for their variables' names; plain Lean. -/
namespace Go.Ty
open Go.VM
/-- A type whose variables are told by their numbers. -/
inductive Sh where
  | v (i : Nat)
  | n (nm : Tx) (l : List Sh)
  deriving Inhabited
mutual
def shape (vs : List Tx) : Ty → Sh
  | .mk nm l => if vs.contains nm = true then .v (vs.idxOf nm) else .n nm (shapes vs l)
def shapes (vs : List Tx) : List Ty → List Sh
  | [] => []
  | t :: l => shape vs t :: shapes vs l
end
mutual
def showS (close : Nat) : Sh → Tx
  | .v i => letter i
  | .n nm l => wrapT (ownB nm) close (bodyT nm (showSs nm 0 l))
def showSs (nm : Tx) (i : Nat) : List Sh → List Tx
  | [] => []
  | t :: l => showS (closeA nm i) t :: showSs nm (i + 1) l
end
mutual
/-- A shape in order: no variable has a name. -/
def wf : Sh → Bool
  | .v i => decide (i < 10000)
  | .n nm l => (nameOk nm l.length && !varB nm) && wfs l
def wfs : List Sh → Bool
  | [] => true
  | t :: l => wf t && wfs l
end
theorem wfs_mem : ∀ {l : List Sh}, wfs l = true → ∀ t ∈ l, wf t = true
  | u :: l, h, t, ht => by
    simp only [wfs, Bool.and_eq_true] at h
    rcases List.mem_cons.1 ht with rfl | ht
    · exact h.1
    · exact wfs_mem h.2 t ht
inductive Head (nm : Tx) (l : List Sh) : Prop
  | base (h : baseB nm = true) (hl : l = [])
  | arrow (h : nm = sArrow) (a b : Sh) (hl : l = [a, b])
  | tuple (h : nm = sTuple) (a b : Sh) (r : List Sh) (hl : l = a :: b :: r)
  | list (h : nm = sList) (a : Sh) (hl : l = [a])
theorem head_of {nm : Tx} {l : List Sh} (h : wf (.n nm l) = true) : Head nm l ∧ wfs l = true := by
  simp only [wf, Bool.and_eq_true] at h
  refine ⟨?_, h.2⟩
  have h1 := h.1.1
  unfold nameOk at h1
  cases hb : baseB nm with
  | true =>
    rw [hb, cond_true, beq_iff_eq] at h1
    exact .base hb (List.length_eq_zero_iff.1 (by omega))
  | false =>
    rw [hb, cond_false] at h1
    cases h2 : nm == sArrow with
    | true =>
      rw [h2, cond_true, beq_iff_eq] at h1
      match l, h1 with
      | [a, b], _ => exact .arrow (beq_iff_eq.1 h2) a b rfl
      | [], h1 => simp at h1
      | [_], h1 => simp at h1
      | _ :: _ :: _ :: _, h1 => simp at h1; omega
    | false =>
      rw [h2, cond_false] at h1
      cases h3 : nm == sTuple with
      | true =>
        rw [h3, cond_true, decide_eq_true_eq] at h1
        match l, h1 with
        | a :: b :: r, _ => exact .tuple (beq_iff_eq.1 h3) a b r rfl
        | [], h1 => simp at h1
        | [_], h1 => simp at h1
      | false =>
        rw [h3, cond_false] at h1
        cases h4 : nm == sList with
        | true =>
          rw [h4, cond_true, beq_iff_eq] at h1
          match l, h1 with
          | [a], _ => exact .list (beq_iff_eq.1 h4) a rfl
          | [], h1 => simp at h1
          | _ :: _ :: _, h1 => simp at h1; omega
        | false =>
          rw [h4, cond_false, Bool.and_eq_true] at h1
          have h5 := h.1.2
          rw [h1.2] at h5
          cases h5
/-- What may stand behind an atom. -/
def endB : Tx → Bool
  | [] => true
  | c :: _ => c == 32 || c == 41
def S2 (r : Tx) : Prop := r = [] ∨ (∃ q, r = 41 :: q) ∨ (∃ q, r = 32 :: 42 :: q) ∨ ∃ q, r = 32 :: 45 :: q
def S1 (r : Tx) : Prop := r = [] ∨ (∃ q, r = 41 :: q) ∨ ∃ q, r = 32 :: 45 :: q
def S0 (r : Tx) : Prop := r = [] ∨ ∃ q, r = 41 :: q
theorem S0.s1 {r : Tx} (h : S0 r) : S1 r := by rcases h with h | h; exact .inl h; exact .inr (.inl h)
theorem S1.s2 {r : Tx} (h : S1 r) : S2 r := by
  rcases h with h | h | h
  · exact .inl h
  · exact .inr (.inl h)
  · exact .inr (.inr (.inr h))
theorem S2.e {r : Tx} (h : S2 r) : endB r = true := by
  rcases h with rfl | ⟨q, rfl⟩ | ⟨q, rfl⟩ | ⟨q, rfl⟩ <;> rfl
/-- A run of letters is told from what stands behind it. -/
theorem run_eq : ∀ {a b r s : Tx}, a.all idB = true → b.all idB = true → endB r = true → endB s = true → a ++ r = b ++ s → a = b ∧ r = s
  | [], [], _, _, _, _, _, _, h => ⟨rfl, h⟩
  | c :: a, d :: b, r, s, ha, hb, hr, hs, h => by
    simp only [List.all_cons, Bool.and_eq_true] at ha hb
    simp only [List.cons_append, List.cons.injEq] at h
    obtain ⟨h1, h2⟩ := run_eq ha.2 hb.2 hr hs h.2
    exact ⟨by rw [h.1, h1], h2⟩
  | [], d :: b, r, s, ha, hb, hr, hs, h => by
    simp only [List.nil_append, List.cons_append] at h
    subst h
    simp only [endB, Bool.or_eq_true, beq_iff_eq] at hr
    simp only [List.all_cons, Bool.and_eq_true] at hb
    rcases hr with rfl | rfl
    · exact absurd hb.1 (by decide)
    · exact absurd hb.1 (by decide)
  | c :: a, [], r, s, ha, hb, hr, hs, h => by
    simp only [List.nil_append, List.cons_append] at h
    subst h
    simp only [endB, Bool.or_eq_true, beq_iff_eq] at hs
    simp only [List.all_cons, Bool.and_eq_true] at ha
    rcases hs with rfl | rfl
    · exact absurd ha.1 (by decide)
    · exact absurd ha.1 (by decide)
def listT : Tx := [32, 108, 105, 115, 116]
/-- So many 'list's. -/
def listN : Nat → Tx
  | 0 => []
  | k + 1 => listT ++ listN k
theorem listN_succ (k : Nat) : listN (k + 1) = listN k ++ listT := by
  induction k with
  | zero => rfl
  | succ k ih =>
    show listT ++ listN (k + 1) = (listT ++ listN k) ++ listT
    rw [ih, List.append_assoc]
theorem listN_end : ∀ (k : Nat) {r : Tx}, S2 r → endB (listN k ++ r) = true
  | 0, _, h => by simpa [listN] using h.e
  | k + 1, _, _ => rfl
theorem listN_eq : ∀ {k m : Nat} {r s : Tx}, S2 r → S2 s → listN k ++ r = listN m ++ s → k = m ∧ r = s
  | 0, 0, _, _, _, _, h => ⟨rfl, by simpa [listN] using h⟩
  | k + 1, m + 1, r, s, hr, hs, h => by
    simp only [listN, List.append_assoc] at h
    obtain ⟨h1, h2⟩ := listN_eq hr hs (List.append_cancel_left h)
    exact ⟨by rw [h1], h2⟩
  | 0, m + 1, r, s, hr, hs, h => by
    simp only [listN, List.nil_append, listT, List.cons_append] at h
    rcases hr with rfl | ⟨q, rfl⟩ | ⟨q, rfl⟩ | ⟨q, rfl⟩ <;> simp at h
  | k + 1, 0, r, s, hr, hs, h => by
    simp only [listN, List.nil_append, listT, List.cons_append] at h
    rcases hs with rfl | ⟨q, rfl⟩ | ⟨q, rfl⟩ | ⟨q, rfl⟩ <;> simp at h
/-- A list's list's .. core. -/
def lists : Nat → Sh → Sh
  | 0, s => s
  | k + 1, s => .n sList [lists k s]
def isList : Sh → Bool
  | .n nm _ => nm == sList
  | _ => false
theorem core_of : ∀ (n : Nat) (s : Sh), SizeOf.sizeOf s < n → wf s = true → ∃ k c, s = lists k c ∧ isList c = false ∧ wf c = true ∧ SizeOf.sizeOf c ≤ SizeOf.sizeOf s := by
  intro n
  induction n with
  | zero => intro s h; omega
  | succ n ih =>
    intro s h hw
    cases hl : isList s with
    | false => exact ⟨0, s, rfl, hl, hw, Nat.le_refl _⟩
    | true =>
      cases s with
      | v i => simp [isList] at hl
      | n nm l =>
        simp only [isList, beq_iff_eq] at hl
        subst hl
        obtain ⟨hd, hws⟩ := head_of hw
        cases hd with
        | base h => exact absurd h (by decide)
        | arrow h => exact absurd h (by decide)
        | tuple h => exact absurd h (by decide)
        | list _ a hl =>
          subst hl
          simp only [Sh.n.sizeOf_spec, List.cons.sizeOf_spec, List.nil.sizeOf_spec] at h
          obtain ⟨k, c, e, h1, h2, h3⟩ := ih a (by omega) (wfs_mem hws a (by simp))
          exact ⟨k + 1, c, by rw [lists, e], h1, h2, by simp only [Sh.n.sizeOf_spec, List.cons.sizeOf_spec, List.nil.sizeOf_spec]; omega⟩
theorem show_list (a : Sh) (c : Nat) (hc : c ≤ 2) : showS c (.n sList [a]) = showS 2 a ++ listT := by
  have e : bodyT sList (showSs sList 0 [a]) = showS 2 a ++ listT := rfl
  simp only [showS, e, wrapT, show ownB sList = 2 from rfl, if_neg (show ¬ 2 < c by omega)]
theorem show_lists : ∀ (k : Nat) (c : Sh), showS 2 (lists k c) = showS 2 c ++ listN k
  | 0, c => by simp [lists, listN]
  | k + 1, c => by rw [lists, show_list _ 2 (Nat.le_refl _), show_lists k c, listN_succ, List.append_assoc]
theorem lists_size : ∀ (k : Nat) (c : Sh), SizeOf.sizeOf c + k ≤ SizeOf.sizeOf (lists k c)
  | 0, c => Nat.le_refl _
  | k + 1, c => by
    have := lists_size k c
    simp only [lists, Sh.n.sizeOf_spec, List.cons.sizeOf_spec, List.nil.sizeOf_spec]; omega
/-! numbers -/
def valD (l : Tx) : Nat := l.foldl (fun a c => a * 10 + (c.toNat - 48)) 0
theorem dig_one : ∀ d, d < 10 → (UInt8.ofNat (48 + d)).toNat = 48 + d := by decide
theorem valD_dig : ∀ (f n : Nat), n < f → valD (digF f n) = n
  | 0, _, h => by omega
  | f + 1, n, h => by
    unfold digF
    split
    · rename_i h1
      show 0 * 10 + ((UInt8.ofNat (48 + n)).toNat - 48) = n
      rw [dig_one n h1]; omega
    · have ih := valD_dig f (n / 10) (by omega)
      unfold valD at ih ⊢
      rw [List.foldl_append, ih]
      show n / 10 * 10 + ((UInt8.ofNat (48 + n % 10)).toNat - 48) = n
      rw [dig_one _ (by omega)]; omega
theorem valD_digits (n : Nat) : valD (digits n) = n := valD_dig _ _ (Nat.lt_succ_self _)
def digB (c : UInt8) : Bool := decide (48 ≤ c.toNat) && decide (c.toNat ≤ 57)
theorem digB_id {c : UInt8} (h : digB c = true) : idB c = true := by
  simp only [digB, Bool.and_eq_true] at h
  simp only [idB, h.1, h.2, Bool.and_self, Bool.or_true]
theorem digF_all : ∀ (f n : Nat), (digF f n).all digB = true
  | 0, _ => rfl
  | f + 1, n => by
    unfold digF
    have g : ∀ d, d < 10 → digB (UInt8.ofNat (48 + d)) = true := by decide
    split
    · rename_i h; simp only [List.all_cons, List.all_nil, g n h, Bool.and_self]
    · simp only [List.all_append, List.all_cons, List.all_nil, digF_all f, g (n % 10) (by omega), Bool.and_self]
theorem letter_tail (i : Nat) : ∃ l, letter i = 39 :: l ∧ l.all idB = true := by
  refine ⟨_, rfl, ?_⟩
  have g : ∀ d, d < 26 → idB (UInt8.ofNat (97 + d)) = true := by decide
  have h := digF_all (i / 26 + 1) (i / 26)
  have h2 : (digits (i / 26)).all idB = true := List.all_eq_true.2 fun x hx => digB_id (List.all_eq_true.1 h x hx)
  show (UInt8.ofNat (97 + i % 26) :: (if 26 ≤ i then digits (i / 26) else [])).all idB = true
  rw [List.all_cons, g _ (Nat.mod_lt _ (by omega)), Bool.true_and]
  split
  · exact h2
  · rfl
theorem letter_inj {i j : Nat} (h : letter i = letter j) : i = j := by
  have v : ∀ i, valD (if 26 ≤ i then digits (i / 26) else []) = i / 26 := fun i => by
    split
    · exact valD_digits _
    · show 0 = _; omega
  unfold letter at h
  simp only [List.cons_append, List.nil_append, List.cons.injEq, true_and] at h
  have h1 := congrArg UInt8.toNat h.1
  have g : ∀ d, d < 26 → (UInt8.ofNat (97 + d)).toNat = 97 + d := by decide
  rw [g _ (Nat.mod_lt _ (by omega)), g _ (Nat.mod_lt _ (by omega))] at h1
  have h2 := congrArg valD h.2
  rw [v, v] at h2
  omega
/-! shapes are told from their text -/
def Q2 (a : Sh) : Prop := ∀ b r s, wf b = true → S2 r → S2 s → showS 2 a ++ r = showS 2 b ++ s → a = b ∧ r = s
def Q1 (a : Sh) : Prop := ∀ b r s, wf b = true → S1 r → S1 s → showS 1 a ++ r = showS 1 b ++ s → a = b ∧ r = s
def Q0 (a : Sh) : Prop := ∀ b r s, wf b = true → S0 r → S0 s → showS 0 a ++ r = showS 0 b ++ s → a = b ∧ r = s
def QC (a : Sh) : Prop := ∀ b r s, wf b = true → isList b = false → endB r = true → endB s = true → showS 2 a ++ r = showS 2 b ++ s → a = b ∧ r = s
def isArrow : Sh → Bool
  | .n nm _ => nm == sArrow
  | _ => false
def isTuple : Sh → Bool
  | .n nm _ => nm == sTuple
  | _ => false
theorem base_id {nm : Tx} (h : baseB nm = true) : ∃ c l, nm = c :: l ∧ (c :: l).all idB = true := by
  unfold baseB at h
  simp only [Bool.or_eq_true, beq_iff_eq] at h
  rcases h with rfl | rfl | rfl | rfl | rfl <;> exact ⟨_, _, rfl, by decide⟩
theorem base_show {nm : Tx} (h : baseB nm = true) (c : Nat) (hc : c ≤ 2) : showS c (.n nm []) = nm := by
  unfold baseB at h
  simp only [Bool.or_eq_true, beq_iff_eq] at h
  have e : ∀ nm : Tx, ownB nm = 2 → bodyT nm [] = nm → showS c (.n nm []) = nm := fun nm h1 h2 => by
    simp only [showS, showSs, wrapT, h1, h2, if_neg (show ¬ 2 < c by omega)]
  rcases h with rfl | rfl | rfl | rfl | rfl <;> exact e _ (by decide) (by decide)
theorem arrow_par (l : List Sh) : showS 2 (.n sArrow l) = 40 :: (showS 0 (.n sArrow l) ++ [41]) := by
  simp [showS, wrapT, ownB]
theorem arrow_par1 (l : List Sh) : showS 1 (.n sArrow l) = showS 2 (.n sArrow l) := by
  simp [showS, wrapT, ownB]
theorem tuple_par (l : List Sh) : showS 2 (.n sTuple l) = 40 :: (showS 0 (.n sTuple l) ++ [41]) := by
  simp [showS, wrapT, ownB, show (sTuple = sArrow) = False from eq_false (by decide)]
theorem tuple_01 (l : List Sh) : showS 0 (.n sTuple l) = showS 1 (.n sTuple l) := by
  simp [showS, wrapT, ownB, show (sTuple = sArrow) = False from eq_false (by decide)]
/-- What a core is. -/
theorem core_kind {b : Sh} (hw : wf b = true) (hl : isList b = false) :
    (∃ i, b = .v i) ∨ (∃ nm, b = .n nm [] ∧ baseB nm = true) ∨ (showS 2 b = 40 :: (showS 0 b ++ [41]) ∧ (isArrow b || isTuple b) = true) := by
  cases b with
  | v i => exact .inl ⟨i, rfl⟩
  | n nm l =>
    obtain ⟨hd, -⟩ := head_of hw
    cases hd with
    | base h e => subst e; exact .inr (.inl ⟨nm, rfl, h⟩)
    | arrow h => subst h; exact .inr (.inr ⟨arrow_par l, rfl⟩)
    | tuple h => subst h; exact .inr (.inr ⟨tuple_par l, rfl⟩)
    | list h => subst h; cases hl
theorem base_ne {nm : Tx} (h : baseB nm = true) {c : UInt8} (hc : idB c = false) {q r : Tx} : nm ++ r ≠ c :: q := by
  obtain ⟨d, l, rfl, hd⟩ := base_id h
  intro e
  simp only [List.cons_append, List.cons.injEq] at e
  simp only [List.all_cons, Bool.and_eq_true] at hd
  rw [e.1, hc] at hd
  cases hd.1
theorem QC.of {a : Sh} (hw : wf a = true) (hl : isList a = false) (h0 : (isArrow a || isTuple a) = true → Q0 a) : QC a := by
  intro b r s hwb hlb hr hs e
  rcases core_kind hw hl with ⟨i, rfl⟩ | ⟨nm, rfl, hn⟩ | ⟨ea, ha⟩ <;> rcases core_kind hwb hlb with ⟨j, rfl⟩ | ⟨mm, rfl, hm⟩ | ⟨eb, hb⟩
  · obtain ⟨la, ela, ha⟩ := letter_tail i
    obtain ⟨lb, elb, hb⟩ := letter_tail j
    simp only [showS, ela, elb, List.cons_append, List.cons.injEq, true_and] at e
    obtain ⟨h1, h2⟩ := run_eq ha hb hr hs e
    exact ⟨by rw [letter_inj (ela.trans (by rw [h1, elb]))], h2⟩
  · obtain ⟨la, ela, ha⟩ := letter_tail i
    rw [base_show hm 2 (Nat.le_refl _)] at e
    simp only [showS, ela, List.cons_append] at e
    exact absurd e.symm (base_ne hm (by decide))
  · obtain ⟨la, ela, ha⟩ := letter_tail i
    rw [eb] at e
    simp only [showS, ela, List.cons_append, List.cons.injEq] at e
    exact absurd e.1 (by decide)
  · obtain ⟨la, ela, ha⟩ := letter_tail j
    rw [base_show hn 2 (Nat.le_refl _)] at e
    simp only [showS, ela, List.cons_append] at e
    exact absurd e (base_ne hn (by decide))
  · rw [base_show hn 2 (Nat.le_refl _), base_show hm 2 (Nat.le_refl _)] at e
    obtain ⟨c, l, e1, h1⟩ := base_id hn
    obtain ⟨d, k, e2, h2⟩ := base_id hm
    obtain ⟨h3, h4⟩ := run_eq (e1 ▸ h1) (e2 ▸ h2) hr hs e
    exact ⟨by rw [h3], h4⟩
  · rw [base_show hn 2 (Nat.le_refl _), eb] at e
    exact absurd e (base_ne hn (by decide))
  · obtain ⟨la, ela, ha'⟩ := letter_tail j
    rw [ea] at e
    simp only [showS, ela, List.cons_append, List.cons.injEq] at e
    exact absurd e.1 (by decide)
  · rw [base_show hm 2 (Nat.le_refl _), ea] at e
    exact absurd e.symm (base_ne hm (by decide))
  · rw [ea, eb] at e
    simp only [List.cons_append, List.cons.injEq, true_and, List.append_assoc, List.nil_append] at e
    obtain ⟨h1, h2⟩ := h0 ha b _ _ hwb (.inr ⟨r, rfl⟩) (.inr ⟨s, rfl⟩) e
    exact ⟨h1, (List.cons.inj h2).2⟩
theorem Q2.of {a : Sh} (ih : ∀ c, SizeOf.sizeOf c < SizeOf.sizeOf a → wf c = true → isList c = false → QC c) (hw : wf a = true) (h0 : isList a = false → QC a) : Q2 a := by
  intro b r s hwb hr hs e
  obtain ⟨k, c, rfl, hlc, hwc, _⟩ := core_of _ a (Nat.lt_succ_self _) hw
  obtain ⟨m, d, rfl, hld, hwd, _⟩ := core_of _ b (Nat.lt_succ_self _) hwb
  have hc : QC c := by
    cases k with
    | zero => exact h0 hlc
    | succ k => exact ih c (by have := lists_size (k + 1) c; omega) hwc hlc
  rw [show_lists, show_lists, List.append_assoc, List.append_assoc] at e
  obtain ⟨h1, h2⟩ := hc d _ _ hwd hld (listN_end k hr) (listN_end m hs) e
  obtain ⟨h3, h4⟩ := listN_eq hr hs h2
  exact ⟨by rw [h1, h3], h4⟩
/-- A tuple's parts. -/
def partsS : Sh → List Sh
  | .n nm l => if nm = sTuple then l else [.n nm l]
  | .v i => [.v i]
theorem parts_n (nm : Tx) (l : List Sh) : partsS (.n nm l) = if nm = sTuple then l else [.n nm l] := rfl
theorem showSs_map {nm : Tx} (h : nm ≠ sArrow) : ∀ (l : List Sh) (i : Nat), showSs nm i l = l.map (showS 2)
  | [], _ => rfl
  | t :: l, i => by simp only [showSs, closeA, if_neg h, List.map_cons, showSs_map h l]
theorem show1_parts {b : Sh} (hw : wf b = true) : showS 1 b = sepT.intercalate ((partsS b).map (showS 2)) := by
  cases b with
  | v i => simp [partsS, showS, List.intercalate, List.intersperse]
  | n nm l =>
    rw [parts_n]
    split
    · rename_i h
      subst h
      have : bodyT sTuple (showSs sTuple 0 l) = sepT.intercalate (l.map (showS 2)) := by
        rw [showSs_map (by decide)]; rfl
      simp only [showS, this, wrapT, show ownB sTuple = 1 from rfl, if_neg (show ¬ 1 < 1 by omega)]
    · rename_i h
      rw [List.map_cons, List.map_nil, show sepT.intercalate [showS 2 (Sh.n nm l)] = showS 2 (Sh.n nm l) by simp [List.intercalate, List.intersperse]]
      obtain ⟨hd, -⟩ := head_of hw
      cases hd with
      | base h e => subst e; rw [base_show h 1 (by omega), base_show h 2 (by omega)]
      | arrow h => subst h; exact arrow_par1 l
      | tuple h' => exact absurd h' h
      | list h _ e => subst h; subst e; rw [show_list _ 1 (by omega), show_list _ 2 (by omega)]
theorem inter_eq : ∀ {A B : List Sh} {r s : Tx}, A ≠ [] → B ≠ [] → (∀ a ∈ A, Q2 a) → wfs B = true → S1 r → S1 s →
    sepT.intercalate (A.map (showS 2)) ++ r = sepT.intercalate (B.map (showS 2)) ++ s → A = B ∧ r = s := by
  have e1 : ∀ (x : Tx), sepT.intercalate [x] = x := fun x => by simp [List.intercalate, List.intersperse]
  have e2 : ∀ (x y : Tx) L (r : Tx), sepT.intercalate (x :: y :: L) ++ r = x ++ (32 :: 42 :: 32 :: (sepT.intercalate (y :: L) ++ r)) := fun x y L r => by
    simp [List.intercalate, List.intersperse, sepT]
  intro A
  induction A with
  | nil => intro B r s h; exact absurd rfl h
  | cons a A ih =>
    intro B r s _ hB hq hw hr hs e
    cases B with
    | nil => exact absurd rfl hB
    | cons b B =>
      simp only [wfs, Bool.and_eq_true] at hw
      cases A with
      | nil =>
        cases B with
        | nil =>
          simp only [List.map_cons, List.map_nil, e1] at e
          obtain ⟨h1, h2⟩ := hq a (by simp) b r s hw.1 hr.s2 hs.s2 e
          exact ⟨by rw [h1], h2⟩
        | cons b' B =>
          simp only [List.map_cons, List.map_nil, e1, e2] at e
          obtain ⟨-, h2⟩ := hq a (by simp) b r _ hw.1 hr.s2 (.inr (.inr (.inl ⟨_, rfl⟩))) e
          exfalso
          rcases hr with rfl | ⟨q, rfl⟩ | ⟨q, rfl⟩ <;> simp at h2
      | cons a' A =>
        cases B with
        | nil =>
          simp only [List.map_cons, List.map_nil, e1, e2] at e
          obtain ⟨-, h2⟩ := hq a (by simp) b _ s hw.1 (.inr (.inr (.inl ⟨_, rfl⟩))) hs.s2 e
          exfalso
          rcases hs with rfl | ⟨q, rfl⟩ | ⟨q, rfl⟩ <;> simp at h2
        | cons b' B =>
          simp only [List.map_cons, e2] at e
          obtain ⟨h1, h2⟩ := hq a (by simp) b _ _ hw.1 (.inr (.inr (.inl ⟨_, rfl⟩))) (.inr (.inr (.inl ⟨_, rfl⟩))) e
          simp only [List.cons.injEq, true_and] at h2
          obtain ⟨h3, h4⟩ := ih (B := b' :: B) (by simp) (by simp) (fun x hx => hq x (List.mem_cons_of_mem _ hx)) hw.2 hr hs (by simpa only [List.map_cons] using h2)
          exact ⟨by rw [h1, h3], h4⟩
theorem parts_wf {b : Sh} (hw : wf b = true) : wfs (partsS b) = true ∧ partsS b ≠ [] ∧ (isTuple b = true → 2 ≤ (partsS b).length) := by
  cases b with
  | v i => exact ⟨by simp [partsS, wfs, hw], by simp [partsS], fun h => by cases h⟩
  | n nm l =>
    rw [parts_n]
    split
    · rename_i h
      subst h
      obtain ⟨hd, hws⟩ := head_of hw
      cases hd with
      | base h => exact absurd h (by decide)
      | arrow h => exact absurd h (by decide)
      | tuple _ a b r e => subst e; exact ⟨hws, by simp, fun _ => by simp⟩
      | list h => exact absurd h (by decide)
    · rename_i h
      refine ⟨by simp [wfs, hw], by simp, fun ht => ?_⟩
      simp only [isTuple, beq_iff_eq] at ht
      exact absurd ht h
theorem parts_inj {a b : Sh} (ha : wf a = true) (hb : wf b = true) (e : partsS a = partsS b) : a = b := by
  have nt : ∀ {a : Sh}, isTuple a = false → partsS a = [a] := fun {a} h => by
    cases a with
    | v i => rfl
    | n nm l =>
      simp only [isTuple] at h
      have : nm ≠ sTuple := by intro hh; subst hh; simp at h
      simp only [partsS, if_neg this]
  have yt : ∀ {a : Sh}, isTuple a = true → a = .n sTuple (partsS a) := fun {a} h => by
    cases a with
    | v i => cases h
    | n nm l =>
      simp only [isTuple, beq_iff_eq] at h
      subst h
      simp only [partsS, if_true]
  cases h1 : isTuple a with
  | true =>
    cases h2 : isTuple b with
    | true => rw [yt h1, yt h2, e]
    | false =>
      have := (parts_wf ha).2.2 h1
      rw [e, nt h2] at this
      simp at this
  | false =>
    cases h2 : isTuple b with
    | true =>
      have := (parts_wf hb).2.2 h2
      rw [← e, nt h1] at this
      simp at this
    | false => rw [nt h1, nt h2] at e; exact (List.cons.inj e).1
theorem mem_size : ∀ {l : List Sh} {t : Sh}, t ∈ l → SizeOf.sizeOf t < SizeOf.sizeOf l
  | u :: l, t, h => by
    simp only [List.cons.sizeOf_spec]
    rcases List.mem_cons.1 h with rfl | h
    · omega
    · have := mem_size h; omega
theorem Q1.of {a : Sh} (ih : ∀ c, SizeOf.sizeOf c < SizeOf.sizeOf a → wf c = true → Q2 c) (hw : wf a = true) (h0 : isTuple a = false → Q2 a) : Q1 a := by
  intro b r s hwb hr hs e
  rw [show1_parts hw, show1_parts hwb] at e
  obtain ⟨w1, n1, -⟩ := parts_wf hw
  obtain ⟨w2, n2, -⟩ := parts_wf hwb
  obtain ⟨h1, h2⟩ := inter_eq n1 n2 (fun x hx => by
    cases a with
    | v i =>
      simp only [partsS, List.mem_singleton] at hx
      subst hx
      exact h0 rfl
    | n nm l =>
      rw [parts_n] at hx
      split at hx
      · rename_i h
        have := mem_size hx
        exact ih x (by simp only [Sh.n.sizeOf_spec]; omega) (wfs_mem (head_of hw).2 x hx)
      · rename_i h
        simp only [List.mem_singleton] at hx
        subst hx
        exact h0 (by simpa [isTuple] using h)) w2 hr hs e
  exact ⟨parts_inj hw hwb h1, h2⟩
def arrT : Tx := [32, 45, 62, 32]
theorem show0_1 {b : Sh} (hw : wf b = true) (h : isArrow b = false) : showS 0 b = showS 1 b := by
  cases b with
  | v i => rfl
  | n nm l =>
    obtain ⟨hd, -⟩ := head_of hw
    cases hd with
    | base h2 e => subst e; rw [base_show h2 0 (by omega), base_show h2 1 (by omega)]
    | arrow h' => subst h'; cases h
    | tuple h' => subst h'; exact tuple_01 l
    | list h' _ e => subst h'; subst e; rw [show_list _ 0 (by omega), show_list _ 1 (by omega)]
/-- How a shape begins. -/
theorem view0 {b : Sh} (hw : wf b = true) : (isArrow b = false ∧ showS 0 b = showS 1 b) ∨ ∃ x y, b = .n sArrow [x, y] ∧ wf x = true ∧ wf y = true ∧ showS 0 b = showS 1 x ++ arrT ++ showS 0 y := by
  cases h : isArrow b with
  | false => exact .inl ⟨rfl, show0_1 hw h⟩
  | true =>
    cases b with
    | v i => cases h
    | n nm l =>
      simp only [isArrow, beq_iff_eq] at h
      subst h
      obtain ⟨hd, hws⟩ := head_of hw
      cases hd with
      | base h => exact absurd h (by decide)
      | arrow _ x y e => subst e; exact .inr ⟨x, y, rfl, wfs_mem hws x (by simp), wfs_mem hws y (by simp), rfl⟩
      | tuple h => exact absurd h (by decide)
      | list h => exact absurd h (by decide)
theorem Q0.of {a : Sh} (ih : ∀ c, SizeOf.sizeOf c < SizeOf.sizeOf a → wf c = true → Q1 c ∧ Q0 c) (hw : wf a = true) (h0 : isArrow a = false → Q1 a) : Q0 a := by
  intro b r s hwb hr hs e
  have st : ∀ q : Tx, S1 (arrT ++ q) := fun q => .inr (.inr ⟨_, rfl⟩)
  rcases view0 hw with ⟨ha, ea⟩ | ⟨x, y, rfl, hx, hy, ea⟩ <;> rcases view0 hwb with ⟨hb, eb⟩ | ⟨x', y', rfl, hx', hy', eb⟩
  · rw [ea, eb] at e
    exact h0 ha b r s hwb hr.s1 hs.s1 e
  · rw [ea, eb, List.append_assoc, List.append_assoc] at e
    obtain ⟨-, h2⟩ := h0 ha x' r _ hx' hr.s1 (st _) e
    exfalso
    rcases hr with rfl | ⟨q, rfl⟩ <;> simp [arrT] at h2
  · rw [ea, eb, List.append_assoc, List.append_assoc] at e
    obtain ⟨-, h2⟩ := (ih x (by simp only [Sh.n.sizeOf_spec, List.cons.sizeOf_spec, List.nil.sizeOf_spec]; omega) hx).1 b _ s hwb (st _) hs.s1 e
    exfalso
    rcases hs with rfl | ⟨q, rfl⟩ <;> simp [arrT] at h2
  · rw [ea, eb, List.append_assoc, List.append_assoc, List.append_assoc, List.append_assoc] at e
    obtain ⟨h1, h2⟩ := (ih x (by simp only [Sh.n.sizeOf_spec, List.cons.sizeOf_spec, List.nil.sizeOf_spec]; omega) hx).1 x' _ _ hx' (st _) (st _) e
    obtain ⟨h3, h4⟩ := (ih y (by simp only [Sh.n.sizeOf_spec, List.cons.sizeOf_spec, List.nil.sizeOf_spec]; omega) hy).2 y' r s hy' hr hs (List.append_cancel_left h2)
    exact ⟨by rw [h1, h3], h4⟩
/-! shapes are told from their names -/
/-! a type's shape -/
mutual
def grow (k : Nat) : Sh → Nat
  | .v i => max k (i + 1)
  | .n _ l => grows k l
def grows (k : Nat) : List Sh → Nat
  | [] => k
  | t :: l => grows (grow k t) l
end
/-! the same? -/
end Go.Ty
/- Types that are made alike: what a table of bindings stands for; plain Lean. -/
namespace Go.Ty
open Go.VM
def Ty.nm : Ty → Tx
  | .mk n _ => n
def Ty.l : Ty → List Ty
  | .mk _ l => l
theorem Ty.eta : ∀ (t : Ty), t = .mk t.nm t.l
  | .mk _ _ => rfl
abbrev Bnd := List (Tx × Ty)
def fnd : Bnd → Tx → Option Ty
  | [], _ => none
  | (m, t) :: B, n => if n == m then some t else fnd B n
def lookT : Bnd → Ty → Ty
  | [], x => x
  | (m, t) :: B, x => if x.nm == m then lookT B t else lookT B x
mutual
def subT (σ : Tx → Ty) : Ty → Ty
  | .mk nm l => if varB nm = true then σ nm else .mk nm (subTs σ l)
def subTs (σ : Tx → Ty) : List Ty → List Ty
  | [] => []
  | t :: l => subT σ t :: subTs σ l
end
mutual
def occB (n : Tx) : Ty → Bool
  | .mk nm l => if varB nm = true then n == nm else occBs n l
def occBs (n : Tx) : List Ty → Bool
  | [] => false
  | t :: l => occB n t || occBs n l
end
def vr (n : Tx) : Ty := .mk n []
def one (n : Tx) (t : Ty) : Tx → Ty := fun m => if m == n then t else vr m
def step (σ : Tx → Ty) (e : Tx × Ty) : Tx → Ty := fun m => subT (one e.1 (subT σ e.2)) (σ m)
/-- What each variable stands for in the end. -/
def fl (B : Bnd) : Tx → Ty := B.foldl step vr
theorem fl_snoc (B : Bnd) (e : Tx × Ty) : fl (B ++ [e]) = step (fl B) e := by
  simp only [fl, List.foldl_append, List.foldl_cons, List.foldl_nil]
inductive Good : Bnd → Prop
  | nil : Good []
  | snoc {B : Bnd} {n : Tx} {t : Ty} : Good B → fnd B n = none → varB n = true → formT t = true → fnd B t.nm = none → occB n (subT (fl B) t) = false → Good (B ++ [(n, t)])
theorem fnd_app (B : Bnd) (m : Tx) (u : Ty) (n : Tx) : fnd (B ++ [(m, u)]) n = match fnd B n with | some t => some t | none => if n == m then some u else none := by
  induction B with
  | nil => simp only [List.nil_append, fnd]
  | cons e B ih =>
    obtain ⟨k, t⟩ := e
    simp only [List.cons_append, fnd]
    cases n == k <;> simp [ih]
theorem subTs_map (σ : Tx → Ty) : ∀ (l : List Ty), subTs σ l = l.map (subT σ)
  | [] => rfl
  | t :: l => by simp only [subTs, List.map_cons, subTs_map σ l]
theorem occBs_any (n : Tx) : ∀ (l : List Ty), occBs n l = l.any (occB n)
  | [] => rfl
  | t :: l => by simp only [occBs, List.any_cons, occBs_any n l]
theorem formTs_all : ∀ (l : List Ty), formTs l = l.all formT
  | [] => rfl
  | t :: l => by simp only [formTs, List.all_cons, formTs_all l]
theorem var_not_base {n : Tx} (h : varB n = true) : baseB n = false ∧ n ≠ sArrow ∧ n ≠ sTuple ∧ n ≠ sList := by
  have hh : n.head? = some 39 := by
    simp only [varB, Bool.and_eq_true, beq_iff_eq] at h
    exact h.2.1
  refine ⟨?_, ?_, ?_, ?_⟩
  · cases hb : baseB n with
    | false => rfl
    | true =>
      simp only [baseB, Bool.or_eq_true, beq_iff_eq] at hb
      rcases hb with rfl | rfl | rfl | rfl | rfl <;> simp [sInt, sFloat, sBool, sString, sUnit] at hh
  all_goals rintro rfl; simp [sArrow, sTuple, sList] at hh
theorem nameOk_var {n : Tx} (h : varB n = true) (k : Nat) : nameOk n k = decide (k = 0) := by
  obtain ⟨h1, h2, h3, h4⟩ := var_not_base h
  have e2 : (n == sArrow) = false := by simpa using h2
  have e3 : (n == sTuple) = false := by simpa using h3
  have e4 : (n == sList) = false := by simpa using h4
  simp only [nameOk, h1, e2, e3, e4, cond_false, h, Bool.and_true]
  rw [Bool.eq_iff_iff]; simp
theorem form_var {n : Tx} {l : List Ty} (h : formT (.mk n l) = true) (hv : varB n = true) : l = [] := by
  simp only [formT, Bool.and_eq_true, nameOk_var hv, decide_eq_true_eq] at h
  exact List.eq_nil_of_length_eq_zero h.1
theorem form_vr {n : Tx} (h : varB n = true) : formT (vr n) = true := by
  simp [vr, formT, formTs, nameOk_var h]
theorem form_args {n : Tx} {l : List Ty} (h : formT (.mk n l) = true) : ∀ t ∈ l, formT t = true := by
  simp only [formT, Bool.and_eq_true, formTs_all, List.all_eq_true] at h
  exact h.2
theorem subT_var {σ : Tx → Ty} {n : Tx} {l : List Ty} (h : varB n = true) : subT σ (.mk n l) = σ n := by simp only [subT, h, if_true]
theorem subT_no {σ : Tx → Ty} {n : Tx} {l : List Ty} (h : varB n = false) : subT σ (.mk n l) = .mk n (subTs σ l) := by simp only [subT, h, Bool.false_eq_true, if_false]
theorem subT_vr_var {σ : Tx → Ty} {n : Tx} (h : varB n = true) : subT σ (vr n) = σ n := subT_var h
theorem occB_var {m n : Tx} {l : List Ty} (h : varB n = true) : occB m (.mk n l) = (m == n) := by simp only [occB, h, if_true]
theorem occB_no {m n : Tx} {l : List Ty} (h : varB n = false) : occB m (.mk n l) = occBs m l := by simp only [occB, h, Bool.false_eq_true, if_false]
mutual
theorem subT_congr {σ τ : Tx → Ty} : ∀ (t : Ty), (∀ n, occB n t = true → σ n = τ n) → subT σ t = subT τ t
  | .mk nm l, h => by
    cases hv : varB nm with
    | true => rw [subT_var hv, subT_var hv]; exact h nm (by rw [occB_var hv]; simp)
    | false => rw [subT_no hv, subT_no hv, subTs_congr l fun n hn => h n (by rw [occB_no hv]; exact hn)]
theorem subTs_congr {σ τ : Tx → Ty} : ∀ (l : List Ty), (∀ n, occBs n l = true → σ n = τ n) → subTs σ l = subTs τ l
  | [], _ => rfl
  | t :: l, h => by
    simp only [subTs]
    rw [subT_congr t fun n hn => h n (by simp [occBs, hn]), subTs_congr l fun n hn => h n (by simp [occBs, hn])]
end
mutual
theorem subT_vr : ∀ (t : Ty), formT t = true → subT vr t = t
  | .mk nm l, h => by
    cases hv : varB nm with
    | true => rw [subT_var hv, form_var h hv]; rfl
    | false =>
      simp only [formT, Bool.and_eq_true] at h
      rw [subT_no hv, subTs_vr l h.2]
theorem subTs_vr : ∀ (l : List Ty), formTs l = true → subTs vr l = l
  | [], _ => rfl
  | t :: l, h => by
    simp only [formTs, Bool.and_eq_true] at h
    simp only [subTs]
    rw [subT_vr t h.1, subTs_vr l h.2]
end
mutual
theorem subT_comp (σ τ : Tx → Ty) : ∀ (t : Ty), subT τ (subT σ t) = subT (fun n => subT τ (σ n)) t
  | .mk nm l => by
    cases hv : varB nm with
    | true => rw [subT_var hv, subT_var hv]
    | false => rw [subT_no hv, subT_no hv, subT_no hv, subTs_comp σ τ l]
theorem subTs_comp (σ τ : Tx → Ty) : ∀ (l : List Ty), subTs τ (subTs σ l) = subTs (fun n => subT τ (σ n)) l
  | [] => rfl
  | t :: l => by simp only [subTs]; rw [subT_comp σ τ t, subTs_comp σ τ l]
end
mutual
theorem occ_isVar {n : Tx} : ∀ (t : Ty), occB n t = true → varB n = true
  | .mk nm l, h => by
    cases hv : varB nm with
    | true => rw [occB_var hv, beq_iff_eq] at h; rw [h]; exact hv
    | false => rw [occB_no hv] at h; exact occs_isVar l h
theorem occs_isVar {n : Tx} : ∀ (l : List Ty), occBs n l = true → varB n = true
  | [], h => by simp [occBs] at h
  | t :: l, h => by
    simp only [occBs, Bool.or_eq_true] at h
    rcases h with h | h
    · exact occ_isVar t h
    · exact occs_isVar l h
end
mutual
theorem form_sub {σ : Tx → Ty} (hs : ∀ n, varB n = true → formT (σ n) = true) : ∀ (t : Ty), formT t = true → formT (subT σ t) = true
  | .mk nm l, h => by
    cases hv : varB nm with
    | true => rw [subT_var hv]; exact hs nm hv
    | false =>
      simp only [formT, Bool.and_eq_true] at h
      rw [subT_no hv]
      simp only [formT, Bool.and_eq_true]
      exact ⟨by rw [subTs_map, List.length_map]; exact h.1, forms_sub hs l h.2⟩
theorem forms_sub {σ : Tx → Ty} (hs : ∀ n, varB n = true → formT (σ n) = true) : ∀ (l : List Ty), formTs l = true → formTs (subTs σ l) = true
  | [], _ => rfl
  | t :: l, h => by
    simp only [formTs, Bool.and_eq_true] at h
    simp only [subTs, formTs, Bool.and_eq_true]
    exact ⟨form_sub hs t h.1, forms_sub hs l h.2⟩
end
theorem one_same (n : Tx) (t : Ty) : one n t n = t := by simp [one]
theorem one_ne {n m : Tx} (t : Ty) (h : m ≠ n) : one n t m = vr m := by simp [one, h]
theorem fl_none {B : Bnd} (h : Good B) : ∀ {n : Tx}, fnd B n = none → fl B n = vr n := by
  induction h with
  | nil => intro n _; rfl
  | @snoc B m u h h1 h2 h3 h4 h5 ih =>
    intro n hn
    rw [fnd_app] at hn
    cases hb : fnd B n with
    | some t => rw [hb] at hn; cases hn
    | none =>
      rw [hb] at hn
      have hne : n ≠ m := by rintro rfl; simp at hn
      rw [fl_snoc]
      show subT (one m _) (fl B n) = vr n
      rw [ih hb]
      cases hv : varB n with
      | true => rw [subT_vr_var hv, one_ne _ hne]
      | false => unfold vr; rw [subT_no hv]; rfl
theorem fl_form {B : Bnd} (h : Good B) : ∀ n, varB n = true → formT (fl B n) = true := by
  induction h with
  | nil => intro n hn; exact form_vr hn
  | @snoc B m u h h1 h2 h3 h4 h5 ih =>
    intro n hn
    rw [fl_snoc]
    refine form_sub (fun k hk => ?_) _ (ih n hn)
    by_cases e : k = m
    · subst e; rw [one_same]; exact form_sub ih _ h3
    · rw [one_ne _ e]; exact form_vr hk
theorem step_sub (σ : Tx → Ty) (e : Tx × Ty) (t : Ty) : subT (step σ e) t = subT (one e.1 (subT σ e.2)) (subT σ t) := (subT_comp _ _ t).symm
theorem one_id {n : Tx} {u t : Ty} (ht : formT t = true) (h : occB n t = false) : subT (one n u) t = t := by
  rw [subT_congr t (τ := vr) fun m hm => one_ne _ (by rintro rfl; rw [h] at hm; cases hm)]
  exact subT_vr t ht
theorem fl_some {B : Bnd} (h : Good B) : ∀ {n : Tx} {t : Ty}, fnd B n = some t → fl B n = subT (fl B) t ∧ varB n = true ∧ formT t = true := by
  induction h with
  | nil => intro n t hn; simp [fnd] at hn
  | @snoc B m u h h1 h2 h3 h4 h5 ih =>
    intro n t hn
    rw [fnd_app] at hn
    cases hb : fnd B n with
    | some t' =>
      rw [hb] at hn
      simp only [Option.some.injEq] at hn
      subst hn
      obtain ⟨k1, k2, k3⟩ := ih hb
      refine ⟨?_, k2, k3⟩
      rw [fl_snoc, step_sub, ← k1]; rfl
    | none =>
      rw [hb] at hn
      simp only at hn
      split at hn
      · rename_i e
        rw [beq_iff_eq] at e
        subst e
        cases hn
        refine ⟨?_, h2, h3⟩
        rw [fl_snoc, step_sub]
        show subT (one n _) (fl B n) = _
        rw [fl_none h hb, subT_vr_var h2, one_same, one_id (form_sub (fl_form h) _ h3) h5]
      · cases hn
/-- A substitution that obeys a table. -/
def Solves (θ : Tx → Ty) (B : Bnd) : Prop := ∀ n t, fnd B n = some t → θ n = subT θ t
theorem Solves.fl {B : Bnd} (h : Good B) : Solves (fl B) B := fun _ _ e => (fl_some h e).1
theorem Solves.init {θ : Tx → Ty} {B : Bnd} {m : Tx} {u : Ty} (h : Solves θ (B ++ [(m, u)])) : Solves θ B := fun n t e => h n t (by rw [fnd_app, e])
theorem Solves.snoc {θ : Tx → Ty} {B : Bnd} {m : Tx} {u : Ty} (h : Solves θ B) (e : θ m = subT θ u) : Solves θ (B ++ [(m, u)]) := fun n t hn => by
  rw [fnd_app] at hn
  cases hb : fnd B n with
  | some t' => rw [hb] at hn; cases hn; exact h n _ hb
  | none =>
    rw [hb] at hn
    simp only at hn
    split at hn
    · rename_i e'
      rw [beq_iff_eq] at e'
      subst e'
      cases hn
      exact e
    · cases hn
theorem fnd_pre {E : Bnd} : ∀ {B : Bnd} {n : Tx} {t : Ty}, fnd B n = some t → fnd (B ++ E) n = some t
  | [], _, _, h => by simp [fnd] at h
  | (k, u) :: B, n, t, h => by
    simp only [List.cons_append, fnd] at h ⊢
    split
    · rename_i hk; rw [if_pos hk] at h; exact h
    · rename_i hk; rw [if_neg hk] at h; exact fnd_pre h
theorem Solves.pre {θ : Tx → Ty} {B E : Bnd} (h : Solves θ (B ++ E)) : Solves θ B := fun n t e => h n t (fnd_pre e)
theorem Solves.full {θ : Tx → Ty} {B : Bnd} (h : Good B) (hs : Solves θ B) (t : Ty) : subT θ (subT (Go.Ty.fl B) t) = subT θ t := by
  rw [subT_comp]
  refine subT_congr t fun n hn => ?_
  have hv := occ_isVar _ hn
  clear hn
  induction h generalizing n with
  | nil => exact subT_vr_var hv
  | @snoc B m u h h1 h2 h3 h4 h5 ih =>
    have ih := ih hs.init
    rw [fl_snoc]
    show subT θ (subT (one m (subT (Go.Ty.fl B) u)) (Go.Ty.fl B n)) = θ n
    rw [subT_comp, ← ih n hv]
    refine subT_congr _ fun w hw => ?_
    by_cases e : w = m
    · subst e
      rw [one_same, subT_comp, subT_congr u (τ := θ) fun x hx => ih x (occ_isVar _ hx)]
      exact (hs w u (by rw [fnd_app, h1]; simp)).symm
    · rw [one_ne _ e]; exact subT_vr_var (occ_isVar _ hw)
/-! Looking up. -/
theorem lookT_snoc (m : Tx) (u : Ty) : ∀ (B : Bnd) (x : Ty), lookT (B ++ [(m, u)]) x = if (lookT B x).nm == m then u else lookT B x
  | [], x => by simp only [List.nil_append, lookT]; rfl
  | (k, t) :: B, x => by
    simp only [List.cons_append, lookT]
    split
    · exact lookT_snoc m u B t
    · exact lookT_snoc m u B x
theorem not_self {B : Bnd} {m : Tx} {u : Ty} (h : Good B) (h1 : fnd B m = none) (h2 : varB m = true) (h5 : occB m (subT (fl B) u) = false) : u.nm ≠ m := by
  intro e
  rw [Ty.eta u, e, subT_var h2, fl_none h h1, show occB m (vr m) = (m == m) from occB_var h2] at h5
  simp at h5
theorem lookT_free {B : Bnd} (h : Good B) (x : Ty) : fnd B (lookT B x).nm = none := by
  induction h with
  | nil => rfl
  | @snoc B m u h h1 h2 h3 h4 h5 ih =>
    rw [lookT_snoc]
    split
    · rw [fnd_app, h4]
      have := not_self h h1 h2 h5
      simp [this]
    · rename_i e
      rw [fnd_app, ih]
      simpa using e
theorem lookT_form {B : Bnd} (h : Good B) {x : Ty} (hx : formT x = true) : formT (lookT B x) = true := by
  induction h with
  | nil => exact hx
  | @snoc B m u h h1 h2 h3 h4 h5 ih =>
    rw [lookT_snoc]
    split
    · exact h3
    · exact ih
theorem lookT_sub {θ : Tx → Ty} {B : Bnd} (h : Good B) (hs : Solves θ B) (x : Ty) : subT θ (lookT B x) = subT θ x := by
  induction h with
  | nil => rfl
  | @snoc B m u h h1 h2 h3 h4 h5 ih =>
    rw [lookT_snoc]
    split
    · rename_i e
      rw [beq_iff_eq] at e
      rw [← ih hs.init, Ty.eta (lookT B x), e, subT_var h2]
      exact (hs m u (by rw [fnd_app, h1]; simp)).symm
    · exact ih hs.init
/-- Steps of looking up. -/
def Stp (B : Bnd) : Nat → Ty → Ty → Prop
  | 0, x, y => x = y
  | k + 1, x, y => ∃ t, fnd B x.nm = some t ∧ Stp B k t y
theorem Stp.app {B : Bnd} {m : Tx} {u : Ty} : ∀ {k : Nat} {x y : Ty}, Stp B k x y → Stp (B ++ [(m, u)]) k x y
  | 0, _, _, h => h
  | k + 1, x, y, ⟨t, h1, h2⟩ => ⟨t, by rw [fnd_app, h1], Stp.app h2⟩
theorem Stp.last {B : Bnd} {t : Ty} : ∀ {k : Nat} {x y : Ty}, Stp B k x y → fnd B y.nm = some t → Stp B (k + 1) x t
  | 0, x, y, h, e => by cases h; exact ⟨t, e, rfl⟩
  | k + 1, x, y, ⟨t', h1, h2⟩, e => ⟨t', h1, Stp.last h2 e⟩
theorem look_steps {B : Bnd} (h : Good B) (x : Ty) : ∃ k, k ≤ B.length ∧ Stp B k x (lookT B x) := by
  induction h with
  | nil => exact ⟨0, Nat.le_refl _, rfl⟩
  | @snoc B m u h h1 h2 h3 h4 h5 ih =>
    obtain ⟨k, k1, k2⟩ := ih
    rw [lookT_snoc]
    split
    · rename_i e
      refine ⟨k + 1, by simp; omega, Stp.last k2.app ?_⟩
      have := lookT_free h x
      rw [beq_iff_eq] at e
      rw [e, fnd_app, h1]
      simp
    · exact ⟨k, by simp; omega, k2.app⟩
end Go.Ty
/- Making types alike: what it does to a table; plain Lean. -/
namespace Go.Ty
open Go.VM
abbrev Prs := List (Tx × Tx)
abbrev Rs := Int × Bnd × Prs
def bindF (B : Bnd) (D : Prs) (n : Tx) (t : Ty) : Rs := if occB n (subT (fl B) t) = true then (66, B, D) else (0, B ++ [(n, t)], D)
def alkL (f : Bnd → Prs → Ty → Ty → Option Rs) : Bnd → Prs → List Ty → List Ty → Option Rs
  | B, D, x :: xs, y :: ys => match f B D x y with
    | none => none
    | some (e, B', D') => if e = 0 then alkL f B' D' xs ys else some (e, B', D')
  | B, D, [], _ => some (0, B, D)
  | B, D, _ :: _, [] => some (0, B, D)
def alkG (f : Bnd → Prs → Ty → Ty → Option Rs) (B : Bnd) (D : Prs) (a b : Ty) : Option Rs :=
  if (varB a.nm && a.nm == b.nm) = true then some (0, B, D)
  else if varB a.nm = true then some (bindF B D a.nm b)
  else if varB b.nm = true then some (bindF B D b.nm a)
  else if (a.nm == b.nm && a.l.length == b.l.length) = true then alkL f B D a.l b.l
  else some (65, B, D)
def bothV (a b : Ty) : Bool := varB a.nm && varB b.nm
def alkF : Nat → Bnd → Prs → Ty → Ty → Option Rs
  | 0, _, _, _, _ => none
  | k + 1, B, D, a, b => if (bothV a b && D.contains (a.nm, b.nm)) = true then some (0, B, D)
    else alkG (alkF k) B (if bothV a b = true then D ++ [(a.nm, b.nm)] else D) (lookT B a) (lookT B b)
theorem subTs_mem {σ : Tx → Ty} {l : List Ty} {t : Ty} (h : t ∈ l) : subT σ t ∈ subTs σ l := by
  rw [subTs_map]; exact List.mem_map.2 ⟨t, h, rfl⟩
theorem szT_mem {l : List Ty} {t : Ty} (h : t ∈ l) : szT t ≤ szTs l := by
  induction l with
  | nil => cases h
  | cons x l ih =>
    simp only [szTs]
    rcases List.mem_cons.1 h with rfl | h
    · omega
    · have := ih h; omega
/-- A part, and not the whole. -/
inductive PS : Ty → Ty → Prop
  | arg {s : Ty} {n : Tx} {l : List Ty} : varB n = false → s ∈ l → PS s (.mk n l)
  | trans {r s t : Ty} : PS r s → PS s t → PS r t
theorem PS.size {s t : Ty} (h : PS s t) : szT s < szT t := by
  induction h with
  | arg _ h => have := szT_mem h; simp only [szT]; omega
  | trans _ _ h1 h2 => omega
theorem PS.sub {s t : Ty} (ρ : Tx → Ty) (h : PS s t) : PS (subT ρ s) (subT ρ t) := by
  induction h with
  | arg hv h => rw [subT_no hv]; exact .arg hv (subTs_mem h)
  | trans _ _ h1 h2 => exact .trans h1 h2
theorem fl_more {B E : Bnd} (h : Good B) (h' : Good (B ++ E)) (t : Ty) : subT (fl (B ++ E)) (subT (fl B) t) = subT (fl (B ++ E)) t := (Solves.fl h').pre.full h t
theorem fl_more_v {B E : Bnd} (h : Good B) (h' : Good (B ++ E)) {v : Tx} (hv : varB v = true) : subT (fl (B ++ E)) (fl B v) = fl (B ++ E) v := by
  have := fl_more h h' (vr v)
  rwa [subT_vr_var hv, subT_vr_var hv] at this
/-! A universe of variables. -/
def unb (U : List Tx) (B : Bnd) : Nat := U.countP fun v => (fnd B v).isNone
def InU (U : List Tx) (t : Ty) : Prop := ∀ v, occB v t = true → v ∈ U
def Cov (U : List Tx) (B : Bnd) : Prop := ∀ n t, fnd B n = some t → InU U t
theorem countP_lt {α : Type} {p q : α → Bool} {x : α} : ∀ {l : List α}, (∀ y, q y = true → p y = true) → x ∈ l → p x = true → q x = false → l.countP q < l.countP p
  | y :: l, h, hx, h1, h2 => by
    have hle : ∀ l : List α, l.countP q ≤ l.countP p := fun l => List.countP_mono_left fun y _ => h y
    simp only [List.countP_cons]
    rcases List.mem_cons.1 hx with rfl | hx
    · simp only [h1, h2, if_true, Bool.false_eq_true, if_false]
      have := hle l; omega
    · have := countP_lt h hx h1 h2
      have hy := h y
      cases hq : q y with
      | true => simp only [hy hq, if_true]; omega
      | false => simp only [Bool.false_eq_true, if_false]; split <;> omega
theorem unb_snoc {U : List Tx} {B : Bnd} {n : Tx} {t : Ty} (hn : n ∈ U) (h : fnd B n = none) : unb U (B ++ [(n, t)]) < unb U B := by
  refine countP_lt (x := n) (fun y hy => ?_) hn (by rw [h]; rfl) (by rw [fnd_app, h]; simp)
  rw [fnd_app] at hy
  cases hb : fnd B y with
  | none => rfl
  | some t => rw [hb] at hy; cases hy
theorem Cov.snoc {U : List Tx} {B : Bnd} {n : Tx} {t : Ty} (h : Cov U B) (ht : InU U t) : Cov U (B ++ [(n, t)]) := fun m u e => by
  rw [fnd_app] at e
  cases hb : fnd B m with
  | some t' => rw [hb] at e; cases e; exact h m _ hb
  | none =>
    rw [hb] at e
    simp only at e
    split at e
    · cases e; exact ht
    · cases e
theorem look_in {U : List Tx} {B : Bnd} (h : Good B) (hc : Cov U B) {x : Ty} (hx : InU U x) : InU U (lookT B x) := by
  induction h with
  | nil => exact hx
  | @snoc B m u h h1 h2 h3 h4 h5 ih =>
    rw [lookT_snoc]
    split
    · exact hc m u (by rw [fnd_app, h1]; simp)
    · exact ih fun n t e => hc n t (by rw [fnd_app, e])
theorem InU.arg {U : List Tx} {n : Tx} {l : List Ty} (hv : varB n = false) (h : InU U (.mk n l)) : ∀ x ∈ l, InU U x := fun x hx v hv' => h v (by
  rw [occB_no hv, occBs_any, List.any_eq_true]; exact ⟨x, hx, hv'⟩)
theorem InU.var {U : List Tx} {t : Ty} (hv : varB t.nm = true) (h : InU U t) : t.nm ∈ U := h _ (by
  rw [Ty.eta t, occB_var hv]; simp [Ty.nm])
/-! What is kept. -/
structure Kpt (U : List Tx) (B B' : Bnd) : Prop where
  good : Good B'
  ext : ∃ E, B' = B ++ E
  cov : Cov U B'
  less : B' = B ∨ unb U B' < unb U B
theorem Kpt.refl' {U : List Tx} {B : Bnd} (h : Good B) (hc : Cov U B) : Kpt U B B := ⟨h, ⟨[], by simp⟩, hc, .inl rfl⟩
theorem Kpt.trans {U : List Tx} {A B C : Bnd} (h : Kpt U A B) (k : Kpt U B C) : Kpt U A C := by
  obtain ⟨_, ⟨E, rfl⟩, _, l1⟩ := h
  obtain ⟨g, ⟨F, rfl⟩, c, l2⟩ := k
  refine ⟨g, ⟨E ++ F, by simp⟩, c, ?_⟩
  rcases l1 with l1 | l1
  · rw [l1] at l2 ⊢; exact l2
  · rcases l2 with l2 | l2
    · rw [l2]; exact .inr l1
    · exact .inr (by omega)
theorem bind_good {B : Bnd} (h : Good B) {n : Tx} {t : Ty} (hn : varB n = true) (hf : fnd B n = none) (ht : formT t = true) (hl : fnd B t.nm = none) (ho : ¬ occB n (subT (fl B) t) = true) : Good (B ++ [(n, t)]) :=
  .snoc h hf hn ht hl (by simpa using ho)
theorem bind_kpt {U : List Tx} {B : Bnd} {D : Prs} (h : Good B) (hc : Cov U B) {n : Tx} {t : Ty} (hn : varB n = true) (hf : fnd B n = none) (hu : n ∈ U) (ht : formT t = true) (hl : fnd B t.nm = none) (hi : InU U t) : Kpt U B (bindF B D n t).2.1 := by
  unfold bindF
  split
  · exact .refl' h hc
  · rename_i ho
    exact ⟨bind_good h hn hf ht hl ho, ⟨_, rfl⟩, hc.snoc hi, .inr (unb_snoc hu hf)⟩
theorem form_l {t : Ty} (h : formT t = true) : ∀ x ∈ t.l, formT x = true := by
  obtain ⟨n, l⟩ := t; exact form_args h
theorem InU.l {U : List Tx} {t : Ty} (hv : varB t.nm = false) (h : InU U t) : ∀ x ∈ t.l, InU U x := by
  obtain ⟨n, l⟩ := t; exact InU.arg hv h
theorem alkL_kpt {U : List Tx} {f : Bnd → Prs → Ty → Ty → Option Rs} (hf : ∀ B D a b e B' D', f B D a b = some (e, B', D') → Good B → Cov U B → formT a = true → formT b = true → InU U a → InU U b → Kpt U B B') :
    ∀ (xs ys : List Ty) (B : Bnd) (D : Prs) (e : Int) (B' : Bnd) (D' : Prs), alkL f B D xs ys = some (e, B', D') → Good B → Cov U B → (∀ x ∈ xs, formT x = true) → (∀ x ∈ ys, formT x = true) → (∀ x ∈ xs, InU U x) → (∀ x ∈ ys, InU U x) → Kpt U B B'
  | [], _, B, D, e, B', D', h, hg, hc, _, _, _, _ => by simp only [alkL, Option.some.injEq, Prod.mk.injEq] at h; obtain ⟨_, rfl, _⟩ := h; exact .refl' hg hc
  | _ :: _, [], B, D, e, B', D', h, hg, hc, _, _, _, _ => by simp only [alkL, Option.some.injEq, Prod.mk.injEq] at h; obtain ⟨_, rfl, _⟩ := h; exact .refl' hg hc
  | x :: xs, y :: ys, B, D, e, B', D', h, hg, hc, h1, h2, h3, h4 => by
    simp only [alkL] at h
    split at h
    · cases h
    · rename_i e1 B1 D1 he
      have k1 := hf _ _ _ _ _ _ _ he hg hc (h1 x (by simp)) (h2 y (by simp)) (h3 x (by simp)) (h4 y (by simp))
      split at h
      · exact k1.trans (alkL_kpt hf xs ys B1 D1 e B' D' h k1.good k1.cov (fun z hz => h1 z (by simp [hz])) (fun z hz => h2 z (by simp [hz])) (fun z hz => h3 z (by simp [hz])) (fun z hz => h4 z (by simp [hz])))
      · simp only [Option.some.injEq, Prod.mk.injEq] at h
        obtain ⟨_, rfl, _⟩ := h
        exact k1
theorem alkF_kpt {U : List Tx} : ∀ (k : Nat) (B : Bnd) (D : Prs) (a b : Ty) (e : Int) (B' : Bnd) (D' : Prs), alkF k B D a b = some (e, B', D') → Good B → Cov U B → formT a = true → formT b = true → InU U a → InU U b → Kpt U B B'
  | 0, _, _, _, _, _, _, _, h, _, _, _, _, _, _ => by simp [alkF] at h
  | k + 1, B, D, a, b, e, B', D', h, hg, hc, h1, h2, h3, h4 => by
    simp only [alkF] at h
    split at h
    · simp only [Option.some.injEq, Prod.mk.injEq] at h; obtain ⟨_, rfl, _⟩ := h; exact .refl' hg hc
    · generalize (if bothV a b = true then D ++ [(a.nm, b.nm)] else D) = D1 at h
      have f1 := lookT_form hg h1
      have f2 := lookT_form hg h2
      have i1 := look_in hg hc h3
      have i2 := look_in hg hc h4
      have n1 := lookT_free hg a
      have n2 := lookT_free hg b
      generalize lookT B a = a' at h f1 i1 n1
      generalize lookT B b = b' at h f2 i2 n2
      unfold alkG at h
      split at h
      · simp only [Option.some.injEq, Prod.mk.injEq] at h; obtain ⟨_, rfl, _⟩ := h; exact .refl' hg hc
      · split at h
        · rename_i hv
          have := bind_kpt (D := D1) hg hc hv n1 (i1.var hv) f2 n2 i2
          simp only [Option.some.injEq] at h
          rw [h] at this; exact this
        · rename_i hv
          split at h
          · rename_i hv2
            have := bind_kpt (D := D1) hg hc hv2 n2 (i2.var hv2) f1 n1 i1
            simp only [Option.some.injEq] at h
            rw [h] at this; exact this
          · rename_i hv2
            split at h
            · exact alkL_kpt (fun B D a b e B' D' => alkF_kpt k B D a b e B' D') _ _ _ _ _ _ _ h hg hc (form_l f1) (form_l f2) (i1.l (by simpa using hv)) (i2.l (by simpa using hv2))
            · simp only [Option.some.injEq, Prod.mk.injEq] at h; obtain ⟨_, rfl, _⟩ := h; exact .refl' hg hc
/-! It ends. -/
theorem alkL_mono {f g : Bnd → Prs → Ty → Ty → Option Rs} (hf : ∀ B D a b r, f B D a b = some r → g B D a b = some r) : ∀ (xs ys : List Ty) (B : Bnd) (D : Prs) (r : Rs), alkL f B D xs ys = some r → alkL g B D xs ys = some r
  | [], _, _, _, _, h => h
  | _ :: _, [], _, _, _, h => h
  | x :: xs, y :: ys, B, D, r, h => by
    simp only [alkL] at h ⊢
    split at h
    · cases h
    · rename_i e1 B1 D1 he
      rw [hf _ _ _ _ _ he]
      simp only
      split
      · rename_i e0; rw [if_pos e0] at h; exact alkL_mono hf xs ys B1 D1 r h
      · rename_i e0; rw [if_neg e0] at h; exact h
theorem alkG_mono {f g : Bnd → Prs → Ty → Ty → Option Rs} (hf : ∀ B D a b r, f B D a b = some r → g B D a b = some r) {B : Bnd} {D : Prs} {a b : Ty} {r : Rs} (h : alkG f B D a b = some r) : alkG g B D a b = some r := by
  unfold alkG at h ⊢
  split
  · rename_i e; rw [if_pos e] at h; exact h
  · rename_i e
    rw [if_neg e] at h
    split
    · rename_i e; rw [if_pos e] at h; exact h
    · rename_i e
      rw [if_neg e] at h
      split
      · rename_i e; rw [if_pos e] at h; exact h
      · rename_i e
        rw [if_neg e] at h
        split
        · rename_i e; rw [if_pos e] at h; exact alkL_mono hf _ _ _ _ _ h
        · rename_i e; rw [if_neg e] at h; exact h
theorem alkF_mono : ∀ (k : Nat) (B : Bnd) (D : Prs) (a b : Ty) (r : Rs), alkF k B D a b = some r → alkF (k + 1) B D a b = some r
  | 0, _, _, _, _, _, h => by simp [alkF] at h
  | k + 1, B, D, a, b, r, h => by
    rw [alkF] at h ⊢
    split
    · rename_i e; rw [if_pos e] at h; exact h
    · rename_i e
      rw [if_neg e] at h
      exact alkG_mono (fun B D a b r => alkF_mono k B D a b r) h
theorem alkF_le {k m : Nat} (hkm : k ≤ m) {B : Bnd} {D : Prs} {a b : Ty} {r : Rs} (h : alkF k B D a b = some r) : alkF m B D a b = some r := by
  induction m with
  | zero => have : k = 0 := by omega
            subst this; exact h
  | succ m ih =>
    rcases Nat.lt_or_ge k (m + 1) with q | q
    · exact alkF_mono m _ _ _ _ _ (ih (by omega))
    · have : k = m + 1 := by omega
      subst this; exact h
theorem alkL_le {k m : Nat} (hkm : k ≤ m) {B : Bnd} {D : Prs} {xs ys : List Ty} {r : Rs} (h : alkL (alkF k) B D xs ys = some r) : alkL (alkF m) B D xs ys = some r :=
  alkL_mono (fun _ _ _ _ _ h => alkF_le hkm h) _ _ _ _ _ h
theorem alkL_ends {U : List Tx} {N s : Nat} (hf : ∀ B D a b, Good B → Cov U B → formT a = true → formT b = true → InU U a → InU U b → (unb U B < N ∨ (unb U B = N ∧ szT (subT (fl B) a) < s)) → ∃ k r, alkF k B D a b = some r) :
    ∀ (xs ys : List Ty) (B : Bnd) (D : Prs), Good B → Cov U B → (∀ x ∈ xs, formT x = true) → (∀ x ∈ ys, formT x = true) → (∀ x ∈ xs, InU U x) → (∀ x ∈ ys, InU U x) → (unb U B < N ∨ (unb U B = N ∧ ∀ x ∈ xs, szT (subT (fl B) x) < s)) → ∃ k r, alkL (alkF k) B D xs ys = some r
  | [], _, B, D, _, _, _, _, _, _, _ => ⟨0, _, rfl⟩
  | _ :: _, [], B, D, _, _, _, _, _, _, _ => ⟨0, _, rfl⟩
  | x :: xs, y :: ys, B, D, hg, hc, h1, h2, h3, h4, hm => by
    obtain ⟨k1, ⟨e1, B1, D1⟩, hr⟩ := hf B D x y hg hc (h1 x (by simp)) (h2 y (by simp)) (h3 x (by simp)) (h4 y (by simp)) (hm.imp id fun h => ⟨h.1, h.2 x (by simp)⟩)
    have kp := alkF_kpt k1 _ _ _ _ _ _ _ hr hg hc (h1 x (by simp)) (h2 y (by simp)) (h3 x (by simp)) (h4 y (by simp))
    by_cases e0 : e1 = 0
    · obtain ⟨k2, r, h5⟩ := alkL_ends hf xs ys B1 D1 kp.good kp.cov (fun z hz => h1 z (by simp [hz])) (fun z hz => h2 z (by simp [hz])) (fun z hz => h3 z (by simp [hz])) (fun z hz => h4 z (by simp [hz])) (by
        rcases kp.less with q | q
        · rw [q]; exact hm.imp id fun h => ⟨h.1, fun z hz => h.2 z (by simp [hz])⟩
        · rcases hm with hm | hm
          · exact .inl (by omega)
          · exact .inl (by omega))
      refine ⟨max k1 k2, r, ?_⟩
      simp only [alkL]
      rw [alkF_le (Nat.le_max_left k1 k2) hr]
      simp only
      rw [if_pos e0]
      exact alkL_le (Nat.le_max_right k1 k2) h5
    · refine ⟨k1, (e1, B1, D1), ?_⟩
      simp only [alkL]
      rw [hr]
      simp only
      rw [if_neg e0]
theorem alk_ends (U : List Tx) : ∀ (N s : Nat) (B : Bnd) (D : Prs) (a b : Ty), Good B → Cov U B → formT a = true → formT b = true → InU U a → InU U b → unb U B = N → szT (subT (fl B) a) = s → ∃ k r, alkF k B D a b = some r := by
  intro N
  induction N using Nat.strongRecOn with
  | _ N ihN =>
    intro s
    induction s using Nat.strongRecOn with
    | _ s ihs =>
      intro B D a b hg hc h1 h2 h3 h4 hN hs
      have hf : ∀ B D a b, Good B → Cov U B → formT a = true → formT b = true → InU U a → InU U b → (unb U B < N ∨ (unb U B = N ∧ szT (subT (fl B) a) < s)) → ∃ k r, alkF k B D a b = some r := fun B D a b g1 g2 g3 g4 g5 g6 hm => by
        rcases hm with hm | ⟨hm, hs'⟩
        · exact ihN _ hm _ B D a b g1 g2 g3 g4 g5 g6 rfl rfl
        · exact ihs _ hs' B D a b g1 g2 g3 g4 g5 g6 hm rfl
      have key : ∀ D1, ∃ k r, alkG (alkF k) B D1 (lookT B a) (lookT B b) = some r := fun D1 => by
        have f1 := lookT_form hg h1
        have f2 := lookT_form hg h2
        have i1 := look_in hg hc h3
        have i2 := look_in hg hc h4
        have hsz := congrArg szT (lookT_sub hg (Solves.fl hg) a)
        generalize lookT B a = a' at f1 i1 hsz ⊢
        generalize lookT B b = b' at f2 i2 ⊢
        unfold alkG
        split
        · exact ⟨0, _, rfl⟩
        · split
          · exact ⟨0, _, rfl⟩
          · rename_i hv
            split
            · exact ⟨0, _, rfl⟩
            · rename_i hv2
              split
              · refine alkL_ends hf _ _ B D1 hg hc (form_l f1) (form_l f2) (i1.l (by simpa using hv)) (i2.l (by simpa using hv2)) (.inr ⟨hN, fun x hx => ?_⟩)
                have hps : PS x a' := by
                  obtain ⟨n, l⟩ := a'
                  exact .arg (by simpa [Ty.nm] using hv) hx
                have := (hps.sub (fl B)).size
                omega
              · exact ⟨0, _, rfl⟩
      obtain ⟨k, r, h⟩ := key (if bothV a b = true then D ++ [(a.nm, b.nm)] else D)
      cases hb : (bothV a b && D.contains (a.nm, b.nm)) with
      | true => exact ⟨1, (0, B, D), by rw [alkF, hb]; rfl⟩
      | false => exact ⟨k + 1, r, by rw [alkF, hb]; exact h⟩
/-! What was made alike is alike. -/
/-- Pairs that were made alike, but for those above. -/
def Inv (B : Bnd) (S : Tx → Tx → Prop) (D : Prs) : Prop := ∀ v w, (v, w) ∈ D → varB v = true ∧ varB w = true ∧ (fl B v = fl B w ∨ S v w)
def Above (B : Bnd) (S : Tx → Tx → Prop) (a : Ty) : Prop := ∀ v w, S v w → varB v = true ∧ PS (subT (fl B) a) (fl B v)
theorem Inv.more {B E : Bnd} {S : Tx → Tx → Prop} {D : Prs} (h : Inv B S D) (g : Good B) (g' : Good (B ++ E)) : Inv (B ++ E) S D := fun v w hm => by
  obtain ⟨h1, h2, h3⟩ := h v w hm
  refine ⟨h1, h2, h3.imp (fun e => ?_) id⟩
  rw [← fl_more_v g g' h1, ← fl_more_v g g' h2, e]
theorem Above.more {B E : Bnd} {S : Tx → Tx → Prop} {a : Ty} (h : Above B S a) (g : Good B) (g' : Good (B ++ E)) : Above (B ++ E) S a := fun v w hs => by
  obtain ⟨h1, h2⟩ := h v w hs
  refine ⟨h1, ?_⟩
  have := h2.sub (fl (B ++ E))
  rwa [fl_more g g', fl_more_v g g' h1] at this
structure Alk (B' : Bnd) (D' : Prs) (S : Tx → Tx → Prop) (a b : Ty) : Prop where
  eq : subT (fl B') a = subT (fl B') b
  inv : Inv B' S D'
/-- All that there is: a universe. -/
theorem vars_univ : ∀ (t : Ty), ∃ U, InU U t
  | .mk nm l => by
    have key : ∀ l' : List Ty, (∀ x ∈ l', x ∈ l) → ∃ U, ∀ x ∈ l', InU U x := by
      intro l'
      induction l' with
      | nil => intro _; exact ⟨[], fun _ h => by cases h⟩
      | cons x l' ih =>
        intro h
        obtain ⟨U, hU⟩ := ih fun y hy => h y (by simp [hy])
        have hm : x ∈ l := h x (by simp)
        obtain ⟨V, hV⟩ := vars_univ x
        refine ⟨V ++ U, fun y hy v hv => ?_⟩
        rcases List.mem_cons.1 hy with rfl | hy
        · exact List.mem_append_left _ (hV v hv)
        · exact List.mem_append_right _ (hU y hy v hv)
    obtain ⟨U, hU⟩ := key l fun _ h => h
    refine ⟨nm :: U, fun v hv => ?_⟩
    cases hn : varB nm with
    | true => rw [occB_var hn, beq_iff_eq] at hv; rw [hv]; simp
    | false =>
      rw [occB_no hn, occBs_any, List.any_eq_true] at hv
      obtain ⟨x, hx, ho⟩ := hv
      exact List.mem_cons_of_mem _ (hU x hx v ho)
termination_by t => SizeOf.sizeOf t
decreasing_by
  have := List.sizeOf_lt_of_mem hm
  simp only [Ty.mk.sizeOf_spec]; omega
theorem bnd_univ : ∀ (B : Bnd), ∃ U, Cov U B
  | [] => ⟨[], fun _ _ h => by simp [fnd] at h⟩
  | (m, u) :: B => by
    obtain ⟨U, hU⟩ := bnd_univ B
    obtain ⟨V, hV⟩ := vars_univ u
    refine ⟨V ++ U, fun n t h v hv => ?_⟩
    simp only [fnd] at h
    split at h
    · cases h; exact List.mem_append_left _ (hV v hv)
    · exact List.mem_append_right _ (hU n t h v hv)
theorem univ (B : Bnd) (a b : Ty) : ∃ U, Cov U B ∧ InU U a ∧ InU U b := by
  obtain ⟨U, h1⟩ := bnd_univ B
  obtain ⟨V, h2⟩ := vars_univ a
  obtain ⟨W, h3⟩ := vars_univ b
  exact ⟨U ++ V ++ W, fun n t h v hv => by simp [h1 n t h v hv], fun v hv => by simp [h2 v hv], fun v hv => by simp [h3 v hv]⟩
theorem alkF_good {k : Nat} {B : Bnd} {D : Prs} {a b : Ty} {e : Int} {B' : Bnd} {D' : Prs} (h : alkF k B D a b = some (e, B', D')) (hg : Good B) (h1 : formT a = true) (h2 : formT b = true) : Good B' ∧ ∃ E, B' = B ++ E := by
  obtain ⟨U, c1, c2, c3⟩ := univ B a b
  have := alkF_kpt k _ _ _ _ _ _ _ h hg c1 h1 h2 c2 c3
  exact ⟨this.good, this.ext⟩
theorem alkF_ends {B : Bnd} (D : Prs) {a b : Ty} (hg : Good B) (h1 : formT a = true) (h2 : formT b = true) : ∃ k r, alkF k B D a b = some r := by
  obtain ⟨U, c1, c2, c3⟩ := univ B a b
  exact alk_ends U _ _ B D a b hg c1 h1 h2 c2 c3 rfl rfl
/-! What can be made alike is. -/
end Go.Ty
/- Types put in the place of variables; plain Lean. -/
namespace Go.Ty
open Go.VM
def hit : List Tx → List Ty → Tx → Option Ty
  | v :: vs, t :: l, n => if v == n then some t else hit vs l n
  | _, _, _ => none
def putS (vs : List Tx) (l : List Ty) : Tx → Ty := fun n => (hit vs l n).getD (vr n)
end Go.Ty
