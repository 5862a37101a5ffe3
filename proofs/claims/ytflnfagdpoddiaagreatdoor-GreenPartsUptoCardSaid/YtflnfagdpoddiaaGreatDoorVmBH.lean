/-
  (A part of the proof: ArgIn.)
-/
import Derived.Test.YtflnfagdpoddiaaGreatDoorVmBB
import Derived.DataReads
import Derived.DataElems
namespace Go.VM
open Go.RowKit Go.ChangeShapes

def isSt (P : Program) (t : TypeId) : Bool :=
  match P.underlying t with
  | some (.struct _) => true
  | _ => false
def mkV (agg : Bool) (cs : List AV) : AV :=
  match agg with
  | true => .agg cs
  | false => match cs with
    | [v] => v
    | _ => undef
def tiles (P : Program) (n : Nat) : Nat → List Field → Bool
  | off, [] => off.beq n
  | off, f :: fs => f.offset.beq off && tiles P n (off + P.cellsOf f.type) fs
def inS (S : List TypeId) (t : TypeId) : Bool := S.any fun u => Nat.beq u t
def okTy (P : Program) (S : List TypeId) (t : TypeId) : Bool :=
  match P.underlying t with
  | some .bool => (P.cellsOf t).beq 1
  | some (.int _) => (P.cellsOf t).beq 1
  | some .string => (P.cellsOf t).beq 1
  | some (.slice e) => (P.cellsOf t).beq 1 && (inS S e && Nat.ble 1 (P.cellsOf e))
  | some (.struct fs) => fs.toList.all (fun f => inS S f.type) && tiles P (P.cellsOf t) 0 fs.toList
  | _ => false
def AvParts (A : TypeId → List AV → Prop) : List Field → List AV → Prop
  | [], as => as = []
  | f :: fs, as => ∃ a b, as = a ++ b ∧ A f.type a ∧ AvParts A fs b
def AvOf (P : Program) : Nat → TypeId → List AV → Prop
  | 0, _, _ => False
  | n + 1, t, as =>
    match P.underlying t with
    | some .bool => ∃ b, as = [.bool b]
    | some (.int k) => ∃ m, as = [.int k m] ∧ k.min ≤ m ∧ m ≤ k.max
    | some .string => ∃ s, as = [.str s] ∧ s.length ≤ maxLen
    | some (.slice e) => as = [.nils] ∨ as = [.es] ∨ ∃ L : List (List AV), as = [.sl (P.cellsOf e) (L.map (mkV (isSt P e))) .wide] ∧ L.length ≤ maxLen ∧ ∀ a ∈ L, AvOf P n e a
    | some (.struct fs) => AvParts (AvOf P n) fs.toList as
    | _ => False
structure AvIn (P : Program) (w : World) (agg : Bool) (z : Nat) (as : List AV) (cs : List Value) : Prop where
  rel : RL (oldGh w) as cs
  bare : bares as = true
  ones : ones as = true
  one : ∀ x ∈ cs, x.oneCell' = true
  len : cs.length = z
  agg : agg = false → as.length = 1
theorem RL_one {g : Gh} {v : AV} {x : Value} (h : R g v x) : RL g [v] [x] := RL_cons h RL_nil
theorem ones_append (l m : List AV) : ones (l ++ m) = (ones l && ones m) := by
  induction l with
  | nil => rfl
  | cons v l ih => simp [ones, ih, Bool.and_assoc]
theorem choose_list {α : Type} {Q : Nat → α → Prop} : ∀ (n : Nat), (∀ i, i < n → ∃ a, Q i a) → ∃ L : List α, L.length = n ∧ ∀ i a, L[i]? = some a → Q i a
  | 0, _ => ⟨[], rfl, fun _ _ h => by simp at h⟩
  | n + 1, h => by
    obtain ⟨L, h1, h2⟩ := choose_list n fun i hi => h i (by omega)
    obtain ⟨a, ha⟩ := h n (by omega)
    refine ⟨L ++ [a], by simp [h1], fun i b hb => ?_⟩
    by_cases hi : i < L.length
    · rw [List.getElem?_append_left hi] at hb; exact h2 i b hb
    · rw [List.getElem?_append_right (by omega)] at hb
      have : i - L.length = 0 := by
        cases e : i - L.length with
        | zero => rfl
        | succ k => rw [e] at hb; simp at hb
      rw [this] at hb
      simp at hb
      subst hb
      have : i = n := by omega
      rw [this]; exact ha
theorem mkV_cells {agg : Bool} {cs : List AV} (ho : ones cs = true) (h : agg = false → cs.length = 1) : (mkV agg cs).cells = cs := by
  cases agg with
  | true => rfl
  | false =>
    have h := h rfl
    match cs, h, ho with
    | [v], _, ho =>
      simp only [VM.ones, Bool.and_true] at ho
      show v.cells = [v]
      cases v <;> first | rfl | (cases ho; done)
theorem mkV_bare {agg : Bool} {cs : List AV} (hb : bares cs = true) (h : agg = false → cs.length = 1) : VM.bare (mkV agg cs) = true := by
  cases agg with
  | true => exact hb
  | false =>
    have h := h rfl
    match cs, h, hb with
    | [v], _, hb =>
      rw [bares_cons] at hb
      simp only [Bool.and_eq_true] at hb
      exact hb.1
theorem RAtE_list {g : Gh} {z b : Nat} {agg : Bool} : ∀ (L : List (List AV)) (o : Nat), (∀ i a, L[i]? = some a → a.length = z ∧ ones a = true ∧ (agg = false → a.length = 1) ∧ RAt g a b (o + i * z)) → RAtE g z (L.map (mkV agg)) b o
  | [], _, _ => by simp [RAtE]
  | a :: L, o, h => by
    have h0 := h 0 a rfl
    rw [List.map_cons, RAtE_cons, mkV_cells h0.2.1 h0.2.2.1]
    refine ⟨h0.1, by simpa using h0.2.2.2, RAtE_list L (o + z) fun i a' hi => ?_⟩
    have := h (i + 1) a' (by simpa using hi)
    refine ⟨this.1, this.2.1, this.2.2.1, ?_⟩
    have e : o + (i + 1) * z = o + z + i * z := by rw [Nat.add_mul]; omega
    rw [← e]; exact this.2.2.2
theorem bares_mkVs {agg : Bool} : ∀ (L : List (List AV)), (∀ a ∈ L, bares a = true ∧ (agg = false → a.length = 1)) → bares (L.map (mkV agg)) = true
  | [], _ => rfl
  | a :: L, h => by
    rw [List.map_cons, bares_cons, mkV_bare (h a (by simp)).1 (h a (by simp)).2, bares_mkVs L fun a ha => h a (by simp [ha])]; rfl

section
variable {H : Type} {enc : TypeId × Value → H} {P : Program} {w : World} {sp : Nat → Bool} {held : Bool} {S : List TypeId}
end
end Go.VM
