/- The value machine once more, in a form that the kernel runs fast. -/
import Derived.Test.YtjagieigmleneajGreatDoorVmCaller
namespace Go.VM

/- Frames: sixteen by sixteen by four. -/
structure N16 (α : Type) where
  (a0 a1 a2 a3 a4 a5 a6 a7 a8 a9 a10 a11 a12 a13 a14 a15 : α)
structure SN16 (α : Type) where
  g : N16 α → α
  p : N16 α → α → N16 α
noncomputable def N16.s0 {α : Type} : SN16 α :=
  ⟨fun n => n.a0, fun n x => N16.rec (motive := fun _ => N16 α) (fun _ a1 a2 a3 a4 a5 a6 a7 a8 a9 a10 a11 a12 a13 a14 a15 => ⟨x, a1, a2, a3, a4, a5, a6, a7, a8, a9, a10, a11, a12, a13, a14, a15⟩) n⟩
noncomputable def N16.s1 {α : Type} : SN16 α :=
  ⟨fun n => n.a1, fun n x => N16.rec (motive := fun _ => N16 α) (fun a0 _ a2 a3 a4 a5 a6 a7 a8 a9 a10 a11 a12 a13 a14 a15 => ⟨a0, x, a2, a3, a4, a5, a6, a7, a8, a9, a10, a11, a12, a13, a14, a15⟩) n⟩
noncomputable def N16.s2 {α : Type} : SN16 α :=
  ⟨fun n => n.a2, fun n x => N16.rec (motive := fun _ => N16 α) (fun a0 a1 _ a3 a4 a5 a6 a7 a8 a9 a10 a11 a12 a13 a14 a15 => ⟨a0, a1, x, a3, a4, a5, a6, a7, a8, a9, a10, a11, a12, a13, a14, a15⟩) n⟩
noncomputable def N16.s3 {α : Type} : SN16 α :=
  ⟨fun n => n.a3, fun n x => N16.rec (motive := fun _ => N16 α) (fun a0 a1 a2 _ a4 a5 a6 a7 a8 a9 a10 a11 a12 a13 a14 a15 => ⟨a0, a1, a2, x, a4, a5, a6, a7, a8, a9, a10, a11, a12, a13, a14, a15⟩) n⟩
noncomputable def N16.s4 {α : Type} : SN16 α :=
  ⟨fun n => n.a4, fun n x => N16.rec (motive := fun _ => N16 α) (fun a0 a1 a2 a3 _ a5 a6 a7 a8 a9 a10 a11 a12 a13 a14 a15 => ⟨a0, a1, a2, a3, x, a5, a6, a7, a8, a9, a10, a11, a12, a13, a14, a15⟩) n⟩
noncomputable def N16.s5 {α : Type} : SN16 α :=
  ⟨fun n => n.a5, fun n x => N16.rec (motive := fun _ => N16 α) (fun a0 a1 a2 a3 a4 _ a6 a7 a8 a9 a10 a11 a12 a13 a14 a15 => ⟨a0, a1, a2, a3, a4, x, a6, a7, a8, a9, a10, a11, a12, a13, a14, a15⟩) n⟩
noncomputable def N16.s6 {α : Type} : SN16 α :=
  ⟨fun n => n.a6, fun n x => N16.rec (motive := fun _ => N16 α) (fun a0 a1 a2 a3 a4 a5 _ a7 a8 a9 a10 a11 a12 a13 a14 a15 => ⟨a0, a1, a2, a3, a4, a5, x, a7, a8, a9, a10, a11, a12, a13, a14, a15⟩) n⟩
noncomputable def N16.s7 {α : Type} : SN16 α :=
  ⟨fun n => n.a7, fun n x => N16.rec (motive := fun _ => N16 α) (fun a0 a1 a2 a3 a4 a5 a6 _ a8 a9 a10 a11 a12 a13 a14 a15 => ⟨a0, a1, a2, a3, a4, a5, a6, x, a8, a9, a10, a11, a12, a13, a14, a15⟩) n⟩
noncomputable def N16.s8 {α : Type} : SN16 α :=
  ⟨fun n => n.a8, fun n x => N16.rec (motive := fun _ => N16 α) (fun a0 a1 a2 a3 a4 a5 a6 a7 _ a9 a10 a11 a12 a13 a14 a15 => ⟨a0, a1, a2, a3, a4, a5, a6, a7, x, a9, a10, a11, a12, a13, a14, a15⟩) n⟩
noncomputable def N16.s9 {α : Type} : SN16 α :=
  ⟨fun n => n.a9, fun n x => N16.rec (motive := fun _ => N16 α) (fun a0 a1 a2 a3 a4 a5 a6 a7 a8 _ a10 a11 a12 a13 a14 a15 => ⟨a0, a1, a2, a3, a4, a5, a6, a7, a8, x, a10, a11, a12, a13, a14, a15⟩) n⟩
noncomputable def N16.s10 {α : Type} : SN16 α :=
  ⟨fun n => n.a10, fun n x => N16.rec (motive := fun _ => N16 α) (fun a0 a1 a2 a3 a4 a5 a6 a7 a8 a9 _ a11 a12 a13 a14 a15 => ⟨a0, a1, a2, a3, a4, a5, a6, a7, a8, a9, x, a11, a12, a13, a14, a15⟩) n⟩
noncomputable def N16.s11 {α : Type} : SN16 α :=
  ⟨fun n => n.a11, fun n x => N16.rec (motive := fun _ => N16 α) (fun a0 a1 a2 a3 a4 a5 a6 a7 a8 a9 a10 _ a12 a13 a14 a15 => ⟨a0, a1, a2, a3, a4, a5, a6, a7, a8, a9, a10, x, a12, a13, a14, a15⟩) n⟩
noncomputable def N16.s12 {α : Type} : SN16 α :=
  ⟨fun n => n.a12, fun n x => N16.rec (motive := fun _ => N16 α) (fun a0 a1 a2 a3 a4 a5 a6 a7 a8 a9 a10 a11 _ a13 a14 a15 => ⟨a0, a1, a2, a3, a4, a5, a6, a7, a8, a9, a10, a11, x, a13, a14, a15⟩) n⟩
noncomputable def N16.s13 {α : Type} : SN16 α :=
  ⟨fun n => n.a13, fun n x => N16.rec (motive := fun _ => N16 α) (fun a0 a1 a2 a3 a4 a5 a6 a7 a8 a9 a10 a11 a12 _ a14 a15 => ⟨a0, a1, a2, a3, a4, a5, a6, a7, a8, a9, a10, a11, a12, x, a14, a15⟩) n⟩
noncomputable def N16.s14 {α : Type} : SN16 α :=
  ⟨fun n => n.a14, fun n x => N16.rec (motive := fun _ => N16 α) (fun a0 a1 a2 a3 a4 a5 a6 a7 a8 a9 a10 a11 a12 a13 _ a15 => ⟨a0, a1, a2, a3, a4, a5, a6, a7, a8, a9, a10, a11, a12, a13, x, a15⟩) n⟩
noncomputable def N16.s15 {α : Type} : SN16 α :=
  ⟨fun n => n.a15, fun n x => N16.rec (motive := fun _ => N16 α) (fun a0 a1 a2 a3 a4 a5 a6 a7 a8 a9 a10 a11 a12 a13 a14 _ => ⟨a0, a1, a2, a3, a4, a5, a6, a7, a8, a9, a10, a11, a12, a13, a14, x⟩) n⟩
noncomputable def N16.sel {α : Type} : Nat → SN16 α
  | 0 => N16.s0
  | 1 => N16.s1
  | 2 => N16.s2
  | 3 => N16.s3
  | 4 => N16.s4
  | 5 => N16.s5
  | 6 => N16.s6
  | 7 => N16.s7
  | 8 => N16.s8
  | 9 => N16.s9
  | 10 => N16.s10
  | 11 => N16.s11
  | 12 => N16.s12
  | 13 => N16.s13
  | 14 => N16.s14
  | _ => N16.s15
def N16.list {α : Type} (n : N16 α) : List α := [n.a0, n.a1, n.a2, n.a3, n.a4, n.a5, n.a6, n.a7, n.a8, n.a9, n.a10, n.a11, n.a12, n.a13, n.a14, n.a15]
structure N4 (α : Type) where
  (a0 a1 a2 a3 : α)
structure SN4 (α : Type) where
  g : N4 α → α
  p : N4 α → α → N4 α
noncomputable def N4.s0 {α : Type} : SN4 α :=
  ⟨fun n => n.a0, fun n x => N4.rec (motive := fun _ => N4 α) (fun _ a1 a2 a3 => ⟨x, a1, a2, a3⟩) n⟩
noncomputable def N4.s1 {α : Type} : SN4 α :=
  ⟨fun n => n.a1, fun n x => N4.rec (motive := fun _ => N4 α) (fun a0 _ a2 a3 => ⟨a0, x, a2, a3⟩) n⟩
noncomputable def N4.s2 {α : Type} : SN4 α :=
  ⟨fun n => n.a2, fun n x => N4.rec (motive := fun _ => N4 α) (fun a0 a1 _ a3 => ⟨a0, a1, x, a3⟩) n⟩
noncomputable def N4.s3 {α : Type} : SN4 α :=
  ⟨fun n => n.a3, fun n x => N4.rec (motive := fun _ => N4 α) (fun a0 a1 a2 _ => ⟨a0, a1, a2, x⟩) n⟩
noncomputable def N4.sel {α : Type} : Nat → SN4 α
  | 0 => N4.s0
  | 1 => N4.s1
  | 2 => N4.s2
  | _ => N4.s3
def N4.list {α : Type} (n : N4 α) : List α := [n.a0, n.a1, n.a2, n.a3]

abbrev Frm := N4 (N16 (N16 AV))
/-- A place in a frame. -/
structure Pl where
  g : Frm → AV
  p : Frm → AV → Frm
noncomputable def plOf (a : SN16 AV) (b : SN16 (N16 AV)) (c : SN4 (N16 (N16 AV))) : Pl :=
  SN16.rec (motive := fun _ => Pl) (fun g1 p1 => SN16.rec (motive := fun _ => Pl) (fun g2 p2 => SN4.rec (motive := fun _ => Pl) (fun g3 p3 =>
    ⟨fun f => g1 (g2 (g3 f)), fun f v => p3 f (p2 (g3 f) (p1 (g2 (g3 f)) v))⟩) c) b) a
noncomputable def pl (n : Nat) : Pl := plOf (N16.sel (n % 16)) (N16.sel (n / 16 % 16)) (N4.sel (n / 256))
noncomputable def nil16 {α : Type} (x : α) : N16 α := ⟨x, x, x, x, x, x, x, x, x, x, x, x, x, x, x, x⟩
noncomputable def nilF : Frm := (fun y : N16 (N16 AV) => ⟨y, y, y, y⟩) (nil16 (nil16 undef))
noncomputable def getP (p : Pl) : Frm → AV := Pl.rec (motive := fun _ => Frm → AV) (fun g _ => g) p
noncomputable def putP (p : Pl) : Frm → AV → Frm := Pl.rec (motive := fun _ => Frm → AV → Frm) (fun _ q => q) p
/-- Where a result goes. -/
abbrev KD := Option (Frm → AV → Frm)
noncomputable def putD (d : KD) (t : Frm) (v : AV) : Frm :=
  Option.rec (motive := fun _ => Frm) t (fun q => q t v) d
/-- What a frame holds at a number. -/
noncomputable def kget (t : Frm) (n : Nat) : AV := match n.blt 1000 with
  | true => getP (pl n) t
  | false => undef
def trOf : Nat → (Nat → AV) → Tr AV
  | 0, _ => .leaf
  | d + 1, f => .node (some (f 0)) (trOf d fun k => f (2 * k + 1)) (trOf d fun k => f (2 * k + 2))
noncomputable def toFr (n : Nat) (t : Frm) : Fr := ⟨n, trOf 10 (kget t)⟩

/- Of values. -/
noncomputable def boolK (v : AV) : (Bool → Bool) → Bool :=
  AV.rec (motive_1 := fun _ => (Bool → Bool) → Bool) (motive_2 := fun _ => Unit) (motive_3 := fun _ => Unit) (motive_4 := fun _ => Unit)
    (fun b k => k b) (fun _ _ _ => false) (fun _ _ => false) (fun _ _ _ => false) (fun _ => false) (fun _ _ _ => false) (fun _ _ _ => false) (fun _ => false) (fun _ _ _ _ _ => false) (fun _ _ _ _ _ _ => false) (fun _ => false) (fun _ _ => false) (fun _ _ _ => false) (fun _ _ _ _ _ _ => false) (fun _ => false) (fun _ _ _ _ => false) (fun _ => false) (fun _ _ _ => false) (fun _ _ _ => false) (fun _ _ _ _ => false) (fun _ _ _ _ => false) () (fun _ _ _ _ => ()) () (fun _ _ _ _ => ()) (fun _ _ _ _ => ()) v
noncomputable def intK (v : AV) : (IntKind → Int → Bool) → Bool :=
  AV.rec (motive_1 := fun _ => (IntKind → Int → Bool) → Bool) (motive_2 := fun _ => Unit) (motive_3 := fun _ => Unit) (motive_4 := fun _ => Unit)
    (fun _ _ => false) (fun a n k => k a n) (fun _ _ => false) (fun _ _ _ => false) (fun _ => false) (fun _ _ _ => false) (fun _ _ _ => false) (fun _ => false) (fun _ _ _ _ _ => false) (fun _ _ _ _ _ _ => false) (fun _ => false) (fun _ _ => false) (fun _ _ _ => false) (fun _ _ _ _ _ _ => false) (fun _ => false) (fun _ _ _ _ => false) (fun _ => false) (fun _ _ _ => false) (fun _ _ _ => false) (fun _ _ _ _ => false) (fun _ _ _ _ => false) () (fun _ _ _ _ => ()) () (fun _ _ _ _ => ()) (fun _ _ _ _ => ()) v
noncomputable def natK (v : AV) : (Nat → Bool) → Bool :=
  AV.rec (motive_1 := fun _ => (Nat → Bool) → Bool) (motive_2 := fun _ => Unit) (motive_3 := fun _ => Unit) (motive_4 := fun _ => Unit)
    (fun _ _ => false) (fun _ n k => Int.rec (motive := fun _ => Bool) (fun m => k m) (fun _ => false) n) (fun _ _ => false) (fun _ _ _ => false) (fun _ => false) (fun _ _ _ => false) (fun _ _ _ => false) (fun _ => false) (fun _ _ _ _ _ => false) (fun _ _ _ _ _ _ => false) (fun _ => false) (fun _ _ => false) (fun _ _ _ => false) (fun _ _ _ _ _ _ => false) (fun _ => false) (fun _ _ _ _ => false) (fun _ => false) (fun _ _ _ => false) (fun _ _ _ => false) (fun _ _ _ _ => false) (fun _ _ _ _ => false) () (fun _ _ _ _ => ()) () (fun _ _ _ _ => ()) (fun _ _ _ _ => ()) v
noncomputable def strK (v : AV) : (List UInt8 → Bool) → Bool :=
  AV.rec (motive_1 := fun _ => (List UInt8 → Bool) → Bool) (motive_2 := fun _ => Unit) (motive_3 := fun _ => Unit) (motive_4 := fun _ => Unit)
    (fun _ _ => false) (fun _ _ _ => false) (fun s k => k s) (fun _ _ _ => false) (fun _ => false) (fun _ _ _ => false) (fun _ _ _ => false) (fun _ => false) (fun _ _ _ _ _ => false) (fun _ _ _ _ _ _ => false) (fun _ => false) (fun _ _ => false) (fun _ _ _ => false) (fun _ _ _ _ _ _ => false) (fun _ => false) (fun _ _ _ _ => false) (fun _ => false) (fun _ _ _ => false) (fun _ _ _ => false) (fun _ _ _ _ => false) (fun _ _ _ _ => false) () (fun _ _ _ _ => ()) () (fun _ _ _ _ => ()) (fun _ _ _ _ => ()) v
noncomputable def adrK (v : AV) : (List AV → Bool) → (Nat → Nat → Bool) → Bool :=
  AV.rec (motive_1 := fun _ => (List AV → Bool) → (Nat → Nat → Bool) → Bool) (motive_2 := fun _ => Unit) (motive_3 := fun _ => Unit) (motive_4 := fun _ => Unit)
    (fun _ _ _ => false) (fun _ _ _ _ => false) (fun _ _ _ => false) (fun _ _ _ _ => false) (fun _ _ => false) (fun c _ k0 _ => k0 c) (fun i o _ k1 => k1 i o) (fun _ _ => false) (fun _ _ _ _ _ _ => false) (fun _ _ _ _ _ _ _ => false) (fun _ _ => false) (fun _ _ _ => false) (fun _ _ _ _ => false) (fun _ _ _ _ _ _ _ => false) (fun _ _ => false) (fun _ _ _ _ _ => false) (fun _ _ => false) (fun _ _ _ _ => false) (fun _ _ _ _ => false) (fun _ _ _ _ _ => false) (fun _ _ _ _ _ => false) () (fun _ _ _ _ => ()) () (fun _ _ _ _ => ()) (fun _ _ _ _ => ()) v
noncomputable def slK (v : AV) : Bool → (Nat → List AV → Bool) → (Nat → Nat → Nat → Nat → Bool) → (Nat → Nat → Nat → Bool) → Bool :=
  AV.rec (motive_1 := fun _ => Bool → (Nat → List AV → Bool) → (Nat → Nat → Nat → Nat → Bool) → (Nat → Nat → Nat → Bool) → Bool) (motive_2 := fun _ => Unit) (motive_3 := fun _ => Unit) (motive_4 := fun _ => Unit)
    (fun _ _ _ _ _ => false) (fun _ _ _ _ _ _ => false) (fun _ _ _ _ _ => false) (fun _ _ _ _ _ _ => false) (fun _ _ _ _ => false) (fun _ _ _ _ _ _ => false) (fun _ _ _ _ _ _ => false) (fun  k0 _ _ _ => k0) (fun z e _ _ _ k1 _ _ => k1 z e) (fun i o z n _ _ _ k2 _ => k2 i o z n) (fun _ _ _ _ => false) (fun _ _ _ _ _ => false) (fun _ _ _ _ _ _ => false) (fun _ _ _ _ _ _ _ _ _ => false) (fun _ _ _ _ => false) (fun _ _ _ _ _ _ _ => false) (fun _ _ _ _ => false) (fun _ _ _ _ _ _ => false) (fun _ _ _ _ _ _ => false) (fun i z n _ _ _ k3 => k3 i z n) (fun _ _ _ _ _ _ _ => false) () (fun _ _ _ _ => ()) () (fun _ _ _ _ => ()) (fun _ _ _ _ => ()) v
noncomputable def gpK (v : AV) : Bool → Bool → Bool :=
  AV.rec (motive_1 := fun _ => Bool → Bool → Bool) (motive_2 := fun _ => Unit) (motive_3 := fun _ => Unit) (motive_4 := fun _ => Unit)
    (fun _ _ k1 => k1) (fun _ _ _ k1 => k1) (fun _ _ k1 => k1) (fun _ _ _ k1 => k1) (fun _ k1 => k1) (fun _ _ _ k1 => k1) (fun _ _ _ k1 => k1) (fun _ k1 => k1) (fun _ _ _ _ _ k1 => k1) (fun _ _ _ _ _ _ k1 => k1) (fun _ k1 => k1) (fun _ _ k1 => k1) (fun _ _ _ k1 => k1) (fun _ _ _ _ _ _ k1 => k1) (fun _ k1 => k1) (fun _ _ _ _ k1 => k1) (fun _ k1 => k1) (fun _ _ _ k1 => k1) (fun _ _ _ k1 => k1) (fun _ _ _ _ k1 => k1) (fun _ _ _ k0 _ => k0) () (fun _ _ _ _ => ()) () (fun _ _ _ _ => ()) (fun _ _ _ _ => ()) v
noncomputable def aggK (v : AV) : (List AV → Bool) → Bool :=
  AV.rec (motive_1 := fun _ => (List AV → Bool) → Bool) (motive_2 := fun _ => Unit) (motive_3 := fun _ => Unit) (motive_4 := fun _ => Unit)
    (fun _ _ => false) (fun _ _ _ => false) (fun _ _ => false) (fun _ _ _ => false) (fun _ => false) (fun _ _ _ => false) (fun _ _ _ => false) (fun _ => false) (fun _ _ _ _ _ => false) (fun _ _ _ _ _ _ => false) (fun _ => false) (fun _ _ => false) (fun _ _ _ => false) (fun _ _ _ _ _ _ => false) (fun _ => false) (fun _ _ _ _ => false) (fun _ => false) (fun c _ k => k c) (fun _ _ _ => false) (fun _ _ _ _ => false) (fun _ _ _ _ => false) () (fun _ _ _ _ => ()) () (fun _ _ _ _ => ()) (fun _ _ _ _ => ()) v
noncomputable def tupK (v : AV) : (List AV → Bool) → Bool :=
  AV.rec (motive_1 := fun _ => (List AV → Bool) → Bool) (motive_2 := fun _ => Unit) (motive_3 := fun _ => Unit) (motive_4 := fun _ => Unit)
    (fun _ _ => false) (fun _ _ _ => false) (fun _ _ => false) (fun _ _ _ => false) (fun _ => false) (fun _ _ _ => false) (fun _ _ _ => false) (fun _ => false) (fun _ _ _ _ _ => false) (fun _ _ _ _ _ _ => false) (fun _ => false) (fun _ _ => false) (fun _ _ _ => false) (fun _ _ _ _ _ _ => false) (fun _ => false) (fun _ _ _ _ => false) (fun _ => false) (fun _ _ _ => false) (fun c _ k => k c) (fun _ _ _ _ => false) (fun _ _ _ _ => false) () (fun _ _ _ _ => ()) () (fun _ _ _ _ => ()) (fun _ _ _ _ => ()) v
/-- What an operation takes. -/
inductive KO where
  | t (g : Frm → AV)
  | c (v : AV)
noncomputable def getO (x : KO) (t : Frm) : AV := KO.rec (motive := fun _ => AV) (fun g => g t) (fun v => v) x
noncomputable def getOs (l : List KO) (t : Frm) : List AV := List.rec (motive := fun _ => List AV) [] (fun x _ ih => getO x t :: ih) l

/-- The callers. -/
structure KC where
  bare : FuncId → List AV → (AV → Bool) → Bool
  wide : FuncId → List AV → St → (AV → St → Bool) → Bool
  look : FuncId → List AV → St → (AV → Bool) → Bool
structure KX where
  X : Cx
  n : Nat
  C : KC

abbrev KN := Frm → St → Bool
abbrev KF := KX → Frm → St → KN → Bool
abbrev KFx := KX → Frm → St → (AV → Fx → Bool) → Bool
inductive KOp where
  | plain (f : KF)
  | chk (j : Nat) (must : List Nat) (keep : Bool) (d : KD) (f : KFx)
inductive Kc where
  | skip
  | reg (l : List KOp)
  | seq (a b : Kc)
  | cond (c : KO) (a b : Kc)
  | block (id : Nat) (c : Kc)
  | loop (c : Kc)
  | exit (id : Nat)
  | ret
  | bad

noncomputable def getN (t : Tr Obj) (n : Nat) : Option Obj :=
  Tr.rec (motive := fun _ => Nat → Option Obj) (fun _ => none)
    (fun v _ _ ihl ihr n => Bool.rec (motive := fun _ => Option Obj)
      (Bool.rec (motive := fun _ => Option Obj) (ihr (Nat.pred (Nat.div n 2))) (ihl (Nat.div n 2)) (Nat.beq (Nat.mod n 2) 1)) v (Nat.beq n 0)) t n
noncomputable def setN (f : Nat) : Tr Obj → Nat → Obj → Tr Obj :=
  Nat.rec (motive := fun _ => Tr Obj → Nat → Obj → Tr Obj) (fun t _ _ => t)
    (fun _ ih t n x => Bool.rec (motive := fun _ => Tr Obj)
      (Bool.rec (motive := fun _ => Tr Obj)
        (Tr.rec (motive := fun _ => Tr Obj) (.node none .leaf (ih .leaf (Nat.pred (Nat.div n 2)) x)) (fun v l r _ _ => .node v l (ih r (Nat.pred (Nat.div n 2)) x)) t)
        (Tr.rec (motive := fun _ => Tr Obj) (.node none (ih .leaf (Nat.div n 2) x) .leaf) (fun v l r _ _ => .node v (ih l (Nat.div n 2) x) r) t)
        (Nat.beq (Nat.mod n 2) 1))
      (Tr.rec (motive := fun _ => Tr Obj) (.node (some x) .leaf .leaf) (fun _ l r _ _ => .node (some x) l r) t)
      (Nat.beq n 0)) f
noncomputable def appK (d : Did) : St → St :=
  Did.rec (motive := fun _ => St → St) (fun s => s)
    (fun id o s => St.rec (motive := fun _ => St) (fun h ro objs => ⟨h, ro, setN (Nat.succ id) objs id o⟩) s)
    (fun _ o s => St.rec (motive := fun _ => St) (fun h ro objs => ⟨Nat.succ h, ro, setN (Nat.succ h) objs h o⟩) s)
    (fun s => s) (fun _ s _ => s) d
/-- The one if it is true; else not. -/
noncomputable def andK (b k : Bool) : Bool := Bool.rec (motive := fun _ => Bool) false k b
noncomputable def notK (b : Bool) : Bool := Bool.rec (motive := fun _ => Bool) true false b
def okSeen (must : List Nat) (x : Fx) : List (Nat × Fx) → Bool
  | [] => true
  | (i, y) :: l => (!must.any (Nat.beq i) || apart y x) && okSeen must x l
noncomputable def opsK (l : List KOp) : KX → List (Nat × Fx) → Frm → St → KN → Bool :=
  List.rec (motive := fun _ => KX → List (Nat × Fx) → Frm → St → KN → Bool) (fun _ _ t st k => k t st)
    (fun o _ ih => KOp.rec (motive := fun _ => KX → List (Nat × Fx) → Frm → St → KN → Bool)
      (fun f X seen t st k => f X t st fun t st => ih X seen t st k)
      (fun j must keep d f X seen t st k => f X t st fun v x =>
        match quiet x with
        | true => ih X seen (putD d t v) (appK x.did st) k
        | false => match okSeen must x seen with
          | true => ih X (match keep with | true => (j, x) :: seen | false => seen) (putD d t v) (appK x.did st) k
          | false => false) o) l

noncomputable def iterK (n : Nat) : (Frm → St → KN → (Nat → KN) → KN → Bool) → Frm → St → (Nat → KN) → KN → Bool :=
  Nat.rec (motive := fun _ => (Frm → St → KN → (Nat → KN) → KN → Bool) → Frm → St → (Nat → KN) → KN → Bool)
    (fun _ _ _ _ _ => false)
    (fun _ ih b t st ke kr => b t st (fun t st => ih b t st ke kr) ke kr) n
noncomputable def execK (c : Kc) : KX → Nat → Frm → St → KN → (Nat → KN) → KN → Bool :=
  Kc.rec (motive := fun _ => KX → Nat → Frm → St → KN → (Nat → KN) → KN → Bool)
    (fun _ _ t st kn _ _ => kn t st)
    (fun l X _ t st kn _ _ => opsK l X [] t st kn)
    (fun _ _ iha ihb X n t st kn ke kr => iha X n t st (fun t st => ihb X n t st kn ke kr) ke kr)
    (fun c _ _ iha ihb X n t st kn ke kr => boolK (getO c t) fun b => Bool.rec (motive := fun _ => Bool) (ihb X n t st kn ke kr) (iha X n t st kn ke kr) b)
    (fun id _ ih X n t st kn ke kr => ih X n t st kn (fun i t st => Bool.rec (motive := fun _ => Bool) (ke i t st) (kn t st) (Nat.beq i id)) kr)
    (fun _ ih X n t st _ ke kr => iterK n (ih X n) t st ke kr)
    (fun id _ _ t st _ ke _ => ke id t st)
    (fun _ _ t st _ _ kr => kr t st)
    (fun _ _ _ _ _ _ _ => false) c

/-- A result. -/
inductive Kr where
  | t (p : Pl)
  | g (r : ResultVar)
structure KFn where
  ntmps : Nat
  code : Kc
  results : List Kr
  imm : TypeId → Bool

noncomputable def putAllK : Nat → List AV → Frm → Frm
  | _, [], t => t
  | i, v :: l, t => putAllK (Nat.succ i) l (putP (pl i) t v)
noncomputable def resK (T : TT) (n : Nat) (t : Frm) (st : St) (r : Kr) : (AV → Bool) → Bool :=
  Kr.rec (motive := fun _ => (AV → Bool) → Bool) (fun p k => k (getP p t)) (fun r k => match resultOf T (toFr n t) st r with | .ok v => k v | .error _ => false) r
noncomputable def resAllK (T : TT) (n : Nat) (t : Frm) (st : St) (l : List Kr) : (List AV → Bool) → Bool :=
  List.rec (motive := fun _ => (List AV → Bool) → Bool) (fun k => k []) (fun r _ ih k => resK T n t st r fun v => ih fun vs => k (v :: vs)) l
noncomputable def finK (T : TT) (n : Nat) (rs : List Kr) (k : AV → St → Bool) : KN := fun t st =>
  resAllK T n t st rs fun vs => k (oneOf vs) st
noncomputable def bodyK (X : KX) (f : KFn) (n : Nat) (args : List AV) (st : St) (k : AV → St → Bool) : Bool :=
  match args.length.ble f.ntmps with
  | false => false
  | true => execK f.code X n (putAllK 0 args nilF) st (finK X.X.T f.ntmps f.results k) (fun _ _ _ => false) (finK X.X.T f.ntmps f.results k)

/-- Values that hold nothing of the store. -/
noncomputable def flatV (v : AV) : Bool :=
  AV.rec (motive_1 := fun _ => Bool) (motive_2 := fun _ => Unit) (motive_3 := fun _ => Unit) (motive_4 := fun _ => Unit)
    (fun _ => true) (fun _ _ => true) (fun _ => true) (fun _ _ => true) true (fun _ _ => true) (fun _ _ => false) true (fun _ _ _ _ => false) (fun _ _ _ _ _ => false) true (fun _ => false) (fun _ _ => false) (fun _ _ _ _ _ => false) true (fun _ _ _ => false) true (fun _ _ => false) (fun _ _ => false) (fun _ _ _ => false) (fun _ _ _ => false) () (fun _ _ _ _ => ()) () (fun _ _ _ _ => ()) (fun _ _ _ _ => ()) v
noncomputable def flatAll (l : List AV) : Bool := List.rec (motive := fun _ => Bool) true (fun v _ ih => andK (flatV v) ih) l
noncomputable def flatT (v : AV) : Bool :=
  AV.rec (motive_1 := fun _ => Bool) (motive_2 := fun _ => Unit) (motive_3 := fun _ => Unit) (motive_4 := fun _ => Unit)
    (fun _ => true) (fun _ _ => true) (fun _ => true) (fun _ _ => true) true (fun _ _ => true) (fun _ _ => false) true (fun _ _ _ _ => false) (fun _ _ _ _ _ => false) true (fun _ => false) (fun _ _ => false) (fun _ _ _ _ _ => false) true (fun _ _ _ => false) true (fun _ _ => false) (fun vs _ => flatAll vs) (fun _ _ _ => false) (fun _ _ _ => false) () (fun _ _ _ _ => ()) () (fun _ _ _ _ => ()) (fun _ _ _ _ => ()) v
/-- Is none of these a name of the store, when it is stripped? -/
noncomputable def baresK (l : List AV) : Bool := List.rec (motive := fun _ => Bool) true (fun v _ ih => andK (Bool.rec (motive := fun _ => Bool) (bare (strip v)) true (flatV v)) ih) l
noncomputable def stripK (v : AV) : AV := Bool.rec (motive := fun _ => AV) (strip v) v (flatV v)
noncomputable def stripsK (l : List AV) : List AV := List.rec (motive := fun _ => List AV) [] (fun v _ ih => stripK v :: ih) l
noncomputable def froze (r : Res AV) (k : AV → Bool) : Bool :=
  match r with
  | .ok v => match bare v with
    | true => k v
    | false => false
  | .error _ => false
noncomputable def kcX (E : Env) (n : Nat) (C : KC) (kf : KFn) : KX := ⟨⟨E.T, E.prim, kf.imm, E.G, caller E n⟩, kf.ntmps, C⟩
noncomputable def kcBare (E : Env) (F : FuncId → Option KFn) (n : Nat) (C : KC) (f : FuncId) (args : List AV) (k : AV → Bool) : Bool :=
  match findMemo args (E.memo f) with
  | some v => k v
  | none => match F f with
    | none => false
    | some kf => bodyK (kcX E n C kf) kf n args St.empty fun v s => Bool.rec (motive := fun _ => Bool) (froze (freeze s 0 100 v) k) (k v) (flatT v)
noncomputable def kcWide (E : Env) (F : FuncId → Option KFn) (n : Nat) (C : KC) (f : FuncId) (args : List AV) (st : St) (k : AV → St → Bool) : Bool :=
  match F f with
  | none => false
  | some kf => bodyK (kcX E n C kf) kf n args st k
noncomputable def kcLook (E : Env) (F : FuncId → Option KFn) (n : Nat) (C : KC) (f : FuncId) (args : List AV) (st : St) (k : AV → Bool) : Bool :=
  match F f with
  | none => false
  | some kf => bodyK (kcX E n C kf) kf n args ⟨st.h, st.h, st.objs⟩ fun v s => Bool.rec (motive := fun _ => Bool) (froze (freeze s st.h 100 v) k) (k v) (flatT v)
noncomputable def kcaller (E : Env) (F : FuncId → Option KFn) (n : Nat) : KC :=
  Nat.rec (motive := fun _ => KC) ⟨fun _ _ _ => false, fun _ _ _ _ => false, fun _ _ _ _ => false⟩
    (fun n C => ⟨kcBare E F n C, kcWide E F n C, kcLook E F n C⟩) n

/- The operations. -/
noncomputable def opGen (all : List Oper) (o : Oper) (d : KD) : KF := fun X t st k =>
  match oper X.X all (toFr X.n t) st o with
  | .ok (v, x) => k (putD d t v) (appK x.did st)
  | .error _ => false
noncomputable def opGenX (all : List Oper) (o : Oper) : KFx := fun X t st k =>
  match oper X.X all (toFr X.n t) st o with
  | .ok (v, x) => k v x
  | .error _ => false
/-- A value. -/
abbrev VF := Frm → (AV → Bool) → Bool
noncomputable def opVal (d : KD) (f : VF) : KF := fun _ t st k => f t fun v => k (putD d t v) st
/-- A move. -/
noncomputable def opMv (x : KO) (d : KD) : KF := fun _ t st k => k (putD d t (getO x t)) st
noncomputable def opWhen (p : Pl) (want : Bool) (d : KD) (f : KF) : KF := fun X t st k =>
  match getP p t with
  | .bool b => Bool.rec (motive := fun _ => Bool) (k (putD d t undef) st) (f X t st k) (b == want)
  | _ => k (putD d t undef) st
noncomputable def opWhenX (p : Pl) (want : Bool) (f : KFx) : KFx := fun X t st k =>
  match getP p t with
  | .bool b => match b == want with
    | true => f X t st k
    | false => k undef ⟨[], .kept⟩
  | _ => k undef ⟨[], .kept⟩
noncomputable def callK (full look : Bool) (g : FuncId) (vs : List AV) (X : KX) (st : St) (k : AV → Fx → Bool) : Bool :=
  Bool.rec (motive := fun _ => Bool)
    (Bool.rec (motive := fun _ => Bool) (X.C.wide g vs st fun v s => k v ⟨[], .all st s⟩) (X.C.look g (stripsK vs) st fun v => k v ⟨[], .looked⟩) look)
    (X.C.bare g (stripsK vs) fun v => k v ⟨[], .kept⟩) (andK (baresK vs) (notK full))
/-- A call: 'full' and 'look' as they are known. -/
noncomputable def opCallX (full look : Bool) (g : FuncId) (args : List KO) : KFx := fun X t st k =>
  callK (full := full) (look := look) g (getOs args t) X st k
noncomputable def opPut (d : KD) (f : KFx) : KF := fun X t st k => f X t st fun v x => k (putD d t v) (appK x.did st)
noncomputable def opRunX (o : Oper) : KFx := fun X t st k =>
  match (plan X.X.T X.X.prim X.X.imm X.X.G (toFr X.n t) o.op >>= runPlan X.X.C st : Res (AV × Fx)) with
  | .ok (v, x) => k v x
  | .error _ => false
/-- A call of what is told by a value. -/
noncomputable def opDynX (o : Oper) (f : KO) (args : List KO) : KFx := fun X t st k =>
  match getO f t with
  | .fn (.func g) first cap => match X.X.prim g with
    | some _ => opRunX o X t st k
    | none =>
      callK (full := X.X.C.full g) (look := X.X.C.isLook g) g (first ++ getOs args t ++ cap) X st k
  | _ => false

/- The translation. -/
noncomputable def trO (G : Nat → Option (List AV)) : Operand → Option KO
  | .tmp t => match t.blt 1000 with
    | true => match pl t with
      | ⟨g, _⟩ => some (.t g)
    | false => none
  | .const v => match ofConst v with
    | .ok a => some (.c a)
    | .error _ => none
  | .global g => match G g with
    | some cs => some (.c (.ip cs))
    | none => none
  | .func g => some (.c (.fn (.func g) [] []))
noncomputable def trOs (G : Nat → Option (List AV)) : List Operand → Option (List KO)
  | [] => some []
  | x :: l => match trO G x with
    | none => none
    | some x => match trOs G l with
      | none => none
      | some l => some (x :: l)
noncomputable def trD (n : Nat) : Option Tmp → KD
  | none => none
  | some d => match d.blt n with
    | true => match pl d with
      | ⟨_, q⟩ => some q
    | false => none

/-- Does an operation never look at the store? -/
def still : Op → Bool
  | .move _ | .assign _ | .pick .. | .build .. | .buildSlice .. | .nilCheck _ | .binOp .. | .unOp .. | .makeInterface .. | .makeFunc .. | .slice .. | .fieldAddr .. | .field .. | .index .. | .extract .. => true
  | _ => false
def isLoad : Op → Bool
  | .load .. => true
  | _ => false
/-- May these come in either order, whatever they do? -/
def free (all : List Oper) (i j : Nat) : Bool :=
  match all[i]?, all[j]? with
  | some a, some b => still a.op || (still b.op || ((isLoad a.op && isLoad b.op) || behind all (j + 1) j i))
  | _, _ => false
def mustOf (all : List Oper) (j : Nat) : List Nat := (List.range j).filter fun i => !free all i j
def keepOf (all : List Oper) (i : Nat) : Bool := (List.range all.length).any fun j => i.blt j && !free all i j

/- Fast forms of what stands in the machine. -/
noncomputable def tlK {α : Type} (l : List α) : List α := List.rec (motive := fun _ => List α) [] (fun _ as _ => as) l
noncomputable def hdK {α : Type} (l : List α) (k : α → Bool) : Bool := List.rec (motive := fun _ => Bool) false (fun a _ _ => k a) l
/-- What is behind the first ones: each tail is that of the one ahead (which the kernel knows already). -/
noncomputable def dropK {α : Type} (l : List α) (n : Nat) : List α := Nat.rec (motive := fun _ => List α) l (fun _ ih => tlK ih) n
noncomputable def setK (n : Nat) (l : List AV) (v : AV) : List AV :=
  Nat.rec (motive := fun _ => List AV → List AV) (fun l => List.rec (motive := fun _ => List AV) [] (fun _ as _ => v :: as) l)
    (fun _ ih l => List.rec (motive := fun _ => List AV) [] (fun a as _ => a :: ih as) l) n l
noncomputable def shortK (n : Nat) (l : List AV) : Bool :=
  Nat.rec (motive := fun _ => List AV → Bool) (fun l => List.rec (motive := fun _ => Bool) true (fun _ _ _ => false) l)
    (fun _ ih l => List.rec (motive := fun _ => Bool) true (fun _ as _ => ih as) l) n l
noncomputable def nthK (n : Nat) (l : List AV) (k : AV → Bool) : Bool := hdK (dropK l n) k
noncomputable def nthB (n : Nat) (l : List UInt8) (k : UInt8 → Bool) : Bool := hdK (dropK l n) k
noncomputable def objK (st : St) (i : Nat) (k : Obj → Bool) : Bool :=
  St.rec (motive := fun _ => Bool) (fun h _ objs => andK (Nat.ble (Nat.succ i) h) (Option.rec (motive := fun _ => Bool) false (fun o => k o) (getN objs i))) st
noncomputable def cellsK (o : Obj) : (TypeId → List AV → Bool) → Bool :=
  Obj.rec (motive := fun _ => (TypeId → List AV → Bool) → Bool) (fun t cs k => k t cs) (fun _ _ _ => false) (fun _ _ => false) (fun _ _ _ => false) (fun _ => false) (fun _ _ _ _ _ => false) o
noncomputable def growK (o : Obj) : (Nat → Nat → List AV → Bool) → Bool :=
  Obj.rec (motive := fun _ => (Nat → Nat → List AV → Bool) → Bool) (fun _ _ _ => false) (fun _ _ _ => false) (fun _ _ => false) (fun _ _ _ => false) (fun _ => false) (fun n _ z es k => k n z es) o
noncomputable def headK (cs : List AV) : (AV → Bool) → Bool :=
  List.rec (motive := fun _ => (AV → Bool) → Bool) (fun _ => false) (fun v _ _ k => k v) cs
noncomputable def takeK (size : Nat) (agg : Bool) (cs : List AV) (k : AV → Bool) : Bool :=
  Bool.rec (motive := fun _ => Bool) (headK cs k)
    (Bool.rec (motive := fun _ => Bool) (andK (Nat.ble size cs.length) (k (.agg (cs.take size)))) (k (.agg cs)) (Nat.beq size cs.length)) agg
def topK : IntKind → Nat
  | .i8 => 127 | .i16 => 32767 | .i32 => 2147483647 | .i64 => 9223372036854775807
  | .u8 => 255 | .u16 => 65535 | .u32 => 4294967295 | .u64 => 18446744073709551615
def lowK : IntKind → Nat
  | .i8 => 128 | .i16 => 32768 | .i32 => 2147483648 | .i64 => 9223372036854775808
  | _ => 0
noncomputable def wrapK (k : IntKind) (n : Int) : Int :=
  Int.rec (motive := fun _ => Int)
    (fun m => Bool.rec (motive := fun _ => Int) (k.wrap (.ofNat m)) (.ofNat m) (Nat.ble m (topK k)))
    (fun m => Bool.rec (motive := fun _ => Int) (k.wrap (.negSucc m)) (.negSucc m) (Nat.ble (Nat.succ m) (lowK k))) n
noncomputable def addK (a : Int) : Int → Int :=
  Int.rec (motive := fun _ => Int → Int)
    (fun m b => Int.rec (motive := fun _ => Int) (fun n => .ofNat (Nat.add m n))
      (fun n => Bool.rec (motive := fun _ => Int) (.negSucc (Nat.sub n m)) (.ofNat (Nat.sub m (Nat.succ n))) (Nat.ble (Nat.succ n) m)) b)
    (fun m b => Int.add (.negSucc m) b) a
noncomputable def subK (a : Int) : Int → Int :=
  Int.rec (motive := fun _ => Int → Int)
    (fun m b => Int.rec (motive := fun _ => Int)
      (fun n => Bool.rec (motive := fun _ => Int) (.negSucc (Nat.sub n (Nat.succ m))) (.ofNat (Nat.sub m n)) (Nat.ble n m))
      (fun n => .ofNat (Nat.add m (Nat.succ n))) b)
    (fun m b => Int.sub (.negSucc m) b) a
noncomputable def ltK (a : Int) : Int → Bool :=
  Int.rec (motive := fun _ => Int → Bool)
    (fun m b => Int.rec (motive := fun _ => Bool) (fun n => Nat.ble (Nat.succ m) n) (fun _ => false) b)
    (fun m b => Int.rec (motive := fun _ => Bool) (fun _ => true) (fun n => Nat.ble (Nat.succ n) m) b) a
noncomputable def eqK (a : Int) : Int → Bool :=
  Int.rec (motive := fun _ => Int → Bool)
    (fun m b => Int.rec (motive := fun _ => Bool) (fun n => Nat.beq m n) (fun _ => false) b)
    (fun m b => Int.rec (motive := fun _ => Bool) (fun _ => false) (fun n => Nat.beq m n) b) a
/-- Bits of two numbers that are not below 0. -/
noncomputable def bitsK (f : Nat → Nat → Nat) (slow : IntKind → Int → Int → Int) (k : IntKind) (a b : Int) : Int :=
  Int.rec (motive := fun _ => Int)
    (fun m => Int.rec (motive := fun _ => Int)
      (fun n => Bool.rec (motive := fun _ => Int) (slow k a b) (Bool.rec (motive := fun _ => Int) (slow k a b) (.ofNat (f m n)) (Nat.ble n (topK k))) (Nat.ble m (topK k)))
      (fun _ => slow k a b) b)
    (fun _ => slow k a b) a
def slowAnd (k : IntKind) (a b : Int) : Int := k.wrap ((BitVec.ofInt k.bits a) &&& (BitVec.ofInt k.bits b)).toNat
def slowOr (k : IntKind) (a b : Int) : Int := k.wrap ((BitVec.ofInt k.bits a) ||| (BitVec.ofInt k.bits b)).toNat
def slowXor (k : IntKind) (a b : Int) : Int := k.wrap ((BitVec.ofInt k.bits a) ^^^ (BitVec.ofInt k.bits b)).toNat
noncomputable def eqS (a : List UInt8) : List UInt8 → Bool :=
  List.rec (motive := fun _ => List UInt8 → Bool) (fun b => List.rec (motive := fun _ => Bool) true (fun _ _ _ => false) b)
    (fun x _ ih b => List.rec (motive := fun _ => Bool) false (fun y m _ => Bool.rec (motive := fun _ => Bool) false (ih m) (Nat.beq x.toNat y.toNat)) b) a
noncomputable def intG : BinOp → Option (IntKind → Int → Int → AV)
  | .add => some fun k a b => .int k (wrapK k (addK a b))
  | .sub => some fun k a b => .int k (wrapK k (subK a b))
  | .and => some fun k a b => .int k (bitsK Nat.land slowAnd k a b)
  | .or => some fun k a b => .int k (bitsK Nat.lor slowOr k a b)
  | .xor => some fun k a b => .int k (bitsK Nat.xor slowXor k a b)
  | .eql => some fun _ a b => .bool (eqK a b)
  | .neq => some fun _ a b => .bool (notK (eqK a b))
  | .lss => some fun _ a b => .bool (ltK a b)
  | .leq => some fun _ a b => .bool (notK (ltK b a))
  | .gtr => some fun _ a b => .bool (ltK b a)
  | .geq => some fun _ a b => .bool (notK (ltK a b))
  | _ => none
noncomputable def strG : BinOp → Option (List UInt8 → List UInt8 → AV)
  | .eql => some fun a b => .bool (eqS a b)
  | .neq => some fun a b => .bool (notK (eqS a b))
  | _ => none

/- Values. -/
noncomputable def vMv (x : KO) : VF := fun t k => k (getO x t)
noncomputable def vInt (g : IntKind → Int → Int → AV) (x y : KO) : VF := fun t k =>
  intK (getO x t) fun a m => intK (getO y t) fun b n => andK (decide (a = b)) (k (g a m n))
noncomputable def vStr (g : List UInt8 → List UInt8 → AV) (x y : KO) : VF := fun t k => strK (getO x t) fun a => strK (getO y t) fun b => k (g a b)
noncomputable def vNot (x : KO) : VF := fun t k => boolK (getO x t) fun b => k (.bool (notK b))
noncomputable def vConv (i : IntKind) (x : KO) : VF := fun t k => intK (getO x t) fun _ n => k (.int i (wrapK i n))
noncomputable def vIface (ty : TypeId) (x : KO) : VF := fun t k => k (.iface ty (getO x t))
noncomputable def vFieldAddr (off : Nat) (x : KO) : VF := fun t k =>
  adrK (getO x t) (fun cells => k (.ip (dropK cells off))) (fun id o => k (.mp id (Nat.add o off)))
noncomputable def vField (off size : Nat) (agg : Bool) (x : KO) : VF := fun t k => aggK (getO x t) fun cs => takeK size agg (dropK cs off) k
noncomputable def vIndexStr (x i : KO) : VF := fun t k => natK (getO i t) fun m => strK (getO x t) fun s => nthB m s fun b => k (.int .u8 (.ofNat b.toNat))
noncomputable def vNil (x : KO) : VF := fun t k => adrK (getO x t) (fun c => k (.ip c)) (fun i o => k (.mp i o))
noncomputable def vExtract (i : Nat) (x : KO) : VF := fun t k => tupK (getO x t) fun vs => nthK i vs k
/-- The length, without a deep recursion. -/
noncomputable def lenB (s : List UInt8) : Nat :=
  List.rec (motive := fun _ => Nat → Nat) (fun n => n) (fun _ _ ih n => Bool.rec (motive := fun _ => Nat) (ih (Nat.succ n)) (ih (Nat.succ n)) (Nat.beq n 0)) s 0
noncomputable def vLenStr (x : KO) : VF := fun t k => strK (getO x t) fun s => k (.int .i64 (.ofNat (lenB s)))
noncomputable def vLenSl (x : KO) : VF := fun t k =>
  slK (getO x t) (k (.int .i64 (.ofNat 0))) (fun _ e => k (.int .i64 (.ofNat e.length))) (fun _ _ _ len => k (.int .i64 (.ofNat len))) (fun _ _ n => k (.int .i64 (.ofNat n)))
noncomputable def vPick (c x y : KO) : VF := fun t k => boolK (getO c t) fun b => k (Bool.rec (motive := fun _ => AV) (getO y t) (getO x t) b)
noncomputable def vIndexArr (len size : Nat) (x i : KO) : VF := fun t k => natK (getO i t) fun m => andK (Nat.ble (Nat.succ m) len)
  (adrK (getO x t) (fun cells => k (.ip (dropK cells (Nat.mul m size)))) (fun id off => k (.mp id (Nat.add off (Nat.mul m size)))))
/-- What is known beforehand. -/
noncomputable def vRes (r : Res AV) : VF := fun _ k => Except.rec (motive := fun _ => Bool) (fun _ => false) (fun v => k v) r
noncomputable def takeB (l : List UInt8) (n : Nat) : List UInt8 := Bool.rec (motive := fun _ => List UInt8) (l.take n) l (Nat.beq n l.length)
noncomputable def vSliceStr (lo hi : Option KO) (x : KO) : VF := fun t k => strK (getO x t) fun s =>
  Option.rec (motive := fun _ => Bool)
    (Option.rec (motive := fun _ => Bool) (k (.str s)) (fun lo => natK (getO lo t) fun l => andK (Nat.ble l s.length) (k (.str (dropK s l)))) lo)
    (fun hi => natK (getO hi t) fun h => andK (Nat.ble h s.length)
      (Option.rec (motive := fun _ => Bool) (k (.str (takeB s h))) (fun lo => natK (getO lo t) fun l => andK (Nat.ble l h) (k (.str (dropK (takeB s h) l)))) lo)) hi
/- What looks at the store. -/
noncomputable def opValX (f : VF) : KFx := fun _ t _ k => f t fun v => k v ⟨[], .kept⟩
noncomputable def xLoad (size : Nat) (agg : Bool) (x : KO) : KFx := fun _ t st k =>
  adrK (getO x t) (fun cells => takeK size agg cells fun v => k v ⟨[], .kept⟩)
    (fun id off => objK st id fun o => cellsK o fun _ cs => takeK size agg (dropK cs off) fun v => k v ⟨[id], .kept⟩)
noncomputable def xIndexAddr (size : Nat) (x i : KO) : KFx := fun _ t st k => natK (getO i t) fun m =>
  slK (getO x t) false (fun sz es => andK (Nat.beq sz size) (nthK m es fun v => k (.ip v.cells) ⟨[], .kept⟩))
    (fun id off sz len => andK (Nat.beq sz size) (andK (Nat.ble (Nat.succ m) len) (k (.mp id (Nat.add off (Nat.mul m sz))) ⟨[], .kept⟩)))
    (fun id sz n => andK (Nat.beq sz size) (andK (Nat.ble (Nat.succ m) n) (objK st id fun o => growK o fun n' z' es => andK (Nat.beq n n') (andK (Nat.beq z' sz)
      (Bool.rec (motive := fun _ => Bool) (k (.gp id n (Nat.mul m sz)) ⟨[id], .kept⟩) (nthK m es fun v => k (.ip v.cells) ⟨[id], .kept⟩) (Nat.ble (Nat.succ m) es.length))))))
noncomputable def xStore1 (x v : KO) : KFx := fun _ t st k =>
  adrK (getO x t) (fun _ => false)
    (fun id off => andK (one (getO v t)) (objK st id fun o => cellsK o fun ty cs => andK (notK (shortK off cs)) (andK (St.rec (motive := fun _ => Bool) (fun _ ro _ => Nat.ble ro id) st)
      (k undef ⟨[id], .wrote id (.cells ty (setK off cs (getO v t)))⟩))))
noncomputable def xStoreN (size : Nat) (x v : KO) : KFx := fun _ t st k =>
  adrK (getO x t) (fun _ => false)
    (fun id off => aggK (getO v t) fun c => andK (Nat.beq c.length size) (andK (ones c) (objK st id fun o => cellsK o fun ty cs =>
      andK (St.rec (motive := fun _ => Bool) (fun _ ro _ => Nat.ble ro id) st) (Bool.rec (motive := fun _ => Bool)
        (andK (Nat.ble (Nat.add off c.length) cs.length) (k undef ⟨[id], .wrote id (.cells ty (splice cs off c))⟩))
        (k undef ⟨[id], .wrote id (.cells ty c)⟩) (Nat.beq off 0 && Nat.beq cs.length c.length)))))
noncomputable def byteK (v : AV) : Bool :=
  AV.rec (motive_1 := fun _ => Bool) (motive_2 := fun _ => Unit) (motive_3 := fun _ => Unit) (motive_4 := fun _ => Unit)
    (fun _ => false) (fun k _ => decide (k = .u8)) (fun _ => false) (fun _ _ => false) false (fun _ _ => false) (fun _ _ => false) false (fun _ _ _ _ => false) (fun _ _ _ _ _ => false) false (fun _ => false) (fun _ _ => false) (fun _ _ _ _ _ => false) false (fun _ _ _ => false) false (fun _ _ => false) (fun _ _ => false) (fun _ _ _ => false) (fun _ _ _ => false) () (fun _ _ _ _ => ()) () (fun _ _ _ _ => ()) (fun _ _ _ _ => ()) v
noncomputable def byteV (v : AV) : UInt8 :=
  AV.rec (motive_1 := fun _ => UInt8) (motive_2 := fun _ => Unit) (motive_3 := fun _ => Unit) (motive_4 := fun _ => Unit)
    (fun _ => 0) (fun _ n => UInt8.ofNat n.toNat) (fun _ => 0) (fun _ _ => 0) 0 (fun _ _ => 0) (fun _ _ => 0) 0 (fun _ _ _ _ => 0) (fun _ _ _ _ _ => 0) 0 (fun _ => 0) (fun _ _ => 0) (fun _ _ _ _ _ => 0) 0 (fun _ _ _ => 0) 0 (fun _ _ => 0) (fun _ _ => 0) (fun _ _ _ => 0) (fun _ _ _ => 0) () (fun _ _ _ _ => ()) () (fun _ _ _ _ => ()) (fun _ _ _ _ => ()) v
/-- Are there that many, and all of them bytes? -/
noncomputable def allB (n : Nat) (l : List AV) : Bool :=
  Nat.rec (motive := fun _ => List AV → Bool) (fun _ => true) (fun _ ih l => List.rec (motive := fun _ => Bool) false (fun v l _ => andK (byteK v) (ih l)) l) n l
noncomputable def mapB (n : Nat) (l : List AV) : List UInt8 :=
  Nat.rec (motive := fun _ => List AV → List UInt8) (fun _ => []) (fun _ ih l => List.rec (motive := fun _ => List UInt8) [] (fun v l _ => byteV v :: ih l) l) n l
noncomputable def xBytes (x : KO) : KFx := fun _ t st k =>
  slK (getO x t) (k (.str []) ⟨[], .kept⟩) (fun _ es => andK (allB es.length es) (k (.str (mapB es.length es)) ⟨[], .kept⟩))
    (fun id off _ len => objK st id fun o => cellsK o fun _ cs => andK (allB len (dropK cs off)) (k (.str (mapB len (dropK cs off))) ⟨[id], .kept⟩))
    (fun _ _ _ => false)
noncomputable def xAlloc (ty : TypeId) (z : List AV) : KFx := fun _ _ st k =>
  St.rec (motive := fun _ => Bool) (fun h _ _ => k (.mp h 0) ⟨[], .made h (.cells ty z)⟩) st

structure KT where
  T : TT
  prim : FuncId → Option Prim
  imm : TypeId → Bool
  G : Nat → Option (List AV)
  full : FuncId → Bool
  isLook : FuncId → Bool
  n : Nat

/-- What an operation is. -/
inductive Tk where
  | v (f : VF)
  | x (f : KFx)
noncomputable def trV2 (f : KO → KO → VF) (G : Nat → Option (List AV)) (x y : Operand) : Option Tk :=
  match trO G x, trO G y with
  | some x, some y => some (.v (f x y))
  | _, _ => none
noncomputable def trV1 (f : KO → VF) (G : Nat → Option (List AV)) (x : Operand) : Option Tk :=
  match trO G x with
  | some x => some (.v (f x))
  | _ => none
noncomputable def trBin (X : KT) (op : BinOp) (t : TypeId) (x y : Operand) : Option Tk :=
  match ti X.T t with
  | .ok i => match i.und with
    | .int _ => match intG op with
      | some g => trV2 (vInt g) X.G x y
      | none => none
    | .str => match strG op with
      | some g => trV2 (vStr g) X.G x y
      | none => none
    | _ => none
  | .error _ => none
noncomputable def trFieldAddr (X : KT) (t : TypeId) (x : Operand) (f : Nat) : Option Tk :=
  match ti X.T t with
  | .ok i => match i.und with
    | .struct fs => match fs[f]? with
      | some (off, ft) => match ti X.T ft with
        | .ok j => match j.size with
          | 0 => none
          | _ + 1 => trV1 (vFieldAddr off) X.G x
        | .error _ => none
      | none => none
    | _ => none
  | .error _ => none
noncomputable def trField (X : KT) (t : TypeId) (x : Operand) (f : Nat) : Option Tk :=
  match ti X.T t with
  | .ok i => match i.und with
    | .struct fs => match fs[f]? with
      | some (off, ft) => match ti X.T ft with
        | .ok j => trV1 (vField off j.size j.agg) X.G x
        | .error _ => none
      | none => none
    | _ => none
  | .error _ => none
noncomputable def trIndexAddr (X : KT) (t : TypeId) (x y : Operand) : Option Tk :=
  match ti X.T t with
  | .ok i => match i.und with
    | .slice e => match ti X.T e with
      | .ok j => match trO X.G x, trO X.G y with
        | some x, some y => some (.x (xIndexAddr j.size x y))
        | _, _ => none
      | .error _ => none
    | .arr len e => match ti X.T e with
      | .ok j => trV2 (vIndexArr len j.size) X.G x y
      | .error _ => none
    | _ => none
  | .error _ => none
noncomputable def trIndex (X : KT) (t : TypeId) (x y : Operand) : Option Tk :=
  match ti X.T t with
  | .ok i => match i.und with
    | .str => trV2 vIndexStr X.G x y
    | _ => none
  | .error _ => none
noncomputable def trConv (X : KT) (s d : TypeId) (x : Operand) : Option Tk :=
  match ti X.T s, ti X.T d with
  | .ok i, .ok j => match i.und, j.und with
    | .int _, .int k => trV1 (vConv k) X.G x
    | .slice e, .str => match ti X.T e with
      | .ok u => match isByte u.und with
        | true => match trO X.G x with
          | some x => some (.x (xBytes x))
          | none => none
        | false => none
      | .error _ => none
    | _, _ => none
  | _, _ => none
noncomputable def trIface (X : KT) (t : TypeId) (x : Operand) : Option Tk :=
  match ti X.T t with
  | .ok i => match i.und with
    | .iface _ | .other => none
    | _ => trV1 (vIface t) X.G x
  | .error _ => none
noncomputable def trLoad (X : KT) (t : TypeId) (x : Operand) : Option Tk :=
  match ti X.T t, trO X.G x with
  | .ok i, some x => some (.x (xLoad i.size i.agg x))
  | _, _ => none
/-- A store: to an element that is not yet written, or elsewhere. -/
noncomputable def xStoreG (o : Oper) (x : KO) (f : KFx) : KFx := fun X t st k => gpK (getO x t) (opRunX o X t st k) (f X t st k)
noncomputable def trStore (X : KT) (o : Oper) (t : TypeId) (x v : Operand) : Option Tk :=
  match ti X.T t, trO X.G x, trO X.G v with
  | .ok i, some x, some v => match Nat.beq i.size 1 && !i.agg with
    | true => some (.x (xStoreG o x (xStore1 x v)))
    | false => match i.agg with
      | true => some (.x (xStoreG o x (xStoreN i.size x v)))
      | false => none
  | _, _, _ => none
noncomputable def trPick (X : KT) (c x y : Operand) : Option Tk :=
  match trO X.G c, trO X.G x, trO X.G y with
  | some c, some x, some y => some (.v (vPick c x y))
  | _, _, _ => none
/-- Constants alone. -/
def constParts : List (Nat × Operand) → Option (List (Nat × AV))
  | [] => some []
  | (i, x) :: l => match x with
    | .const v => match ofConst v with
      | .ok a => match constParts l with
        | some l => some ((i, a) :: l)
        | none => none
      | .error _ => none
    | _ => none
noncomputable def trBuildSlice (X : KT) (t : TypeId) (len : Nat) (parts : Array (Nat × Operand)) : Option Tk :=
  match constParts parts.toList with
  | some ps => some (.v (vRes (buildSlice X.T t len ps)))
  | none => none
noncomputable def trOptO (G : Nat → Option (List AV)) : Option Operand → Option (Option KO)
  | none => some none
  | some x => match trO G x with
    | some k => some (some k)
    | none => none
noncomputable def trSlice (X : KT) (t : TypeId) (x : Operand) (lo hi mx : Option Operand) : Option Tk :=
  match mx with
  | some _ => none
  | none => match ti X.T t with
    | .ok i => match i.und with
      | .str => match trOptO X.G lo, trOptO X.G hi, trO X.G x with
        | some lo, some hi, some x => some (.v (vSliceStr lo hi x))
        | _, _, _ => none
      | _ => none
    | .error _ => none
noncomputable def trLen (X : KT) (t : TypeId) (x : Operand) : Option Tk :=
  match ti X.T t with
  | .ok i => match i.und with
    | .str => trV1 vLenStr X.G x
    | .slice _ => trV1 vLenSl X.G x
    | _ => none
  | .error _ => none
noncomputable def trAlloc (X : KT) (t : TypeId) : Option Tk :=
  match ti X.T t with
  | .ok i => some (.x (xAlloc t i.zero))
  | .error _ => none
noncomputable def trCall (X : KT) (o : Oper) (c : Call) : Option Tk :=
  match c.callee with
  | .builtin b => match b, c.argTypes.toList, c.args.toList with
    | .len, t :: _, [x] => trLen X t x
    | _, _, _ => none
  | .value f => match trO X.G f, trOs X.G c.args.toList with
    | some f, some args => match f with
      | .c v => match v with
        | .fn w first cap => match w with
          | .func g => match first, cap with
            | [], [] => match X.prim g with
              | none => some (.x (opCallX (X.full g) (X.isLook g) g args))
              | some _ => none
            | _, _ => none
          | _ => none
        | _ => none
      | .t p => some (.x (opDynX o (.t p) args))
    | _, _ => none
  | .invoke .. => none
noncomputable def trBase (X : KT) (o : Oper) : Option Tk :=
  match o.op with
  | .move x => trV1 vMv X.G x
  | .assign x => trV1 vMv X.G x
  | .binOp op t x y _ => trBin X op t x y
  | .unOp .not _ x => trV1 vNot X.G x
  | .pick c x y => trPick X c x y
  | .buildSlice t len parts => trBuildSlice X t len parts
  | .slice t x lo hi mx => trSlice X t x lo hi mx
  | .convert s d x => trConv X s d x
  | .makeInterface t x => trIface X t x
  | .fieldAddr t x f => trFieldAddr X t x f
  | .field t x f => trField X t x f
  | .indexAddr t x i => trIndexAddr X t x i
  | .index t x i => trIndex X t x i
  | .nilCheck x => trV1 vNil X.G x
  | .extract x i => trV1 (vExtract i) X.G x
  | .load t x => trLoad X t x
  | .store t x v => trStore X o t x v
  | .alloc t => trAlloc X t
  | .call c => trCall X o c
  | _ => none
def isCall : Op → Bool
  | .call c => match c.callee with
    | .value _ => true
    | _ => false
  | _ => false
/-- One operation, plainly. -/
noncomputable def trMove (G : Nat → Option (List AV)) (o : Oper) : Option KO :=
  match o.guard with
  | some _ => none
  | none => match o.op with
    | .move x => trO G x
    | .assign x => trO G x
    | _ => none
noncomputable def trPlain (X : KT) (all : List Oper) (o : Oper) : KOp :=
  match trMove X.G o with
  | some x => .plain (opMv x (trD X.n o.dst))
  | none =>
  match trBase X o with
  | none => .plain (opGen all o (trD X.n o.dst))
  | some k => match o.guard with
    | none => match k with
      | .v f => .plain (opVal (trD X.n o.dst) f)
      | .x f => .plain (opPut (trD X.n o.dst) f)
    | some (j, want) => match (all[j]?).bind (·.dst) with
      | some d => match d.blt X.n with
        | true => match k with
          | .v f => .plain (opWhen (pl d) want (trD X.n o.dst) (opVal (trD X.n o.dst) f))
          | .x f => .plain (opWhen (pl d) want (trD X.n o.dst) (opPut (trD X.n o.dst) f))
        | false => .plain (opGen all o (trD X.n o.dst))
      | none => .plain (opGen all o (trD X.n o.dst))
noncomputable def trChk (X : KT) (all : List Oper) (o : Oper) (j : Nat) (m : List Nat) (b : Bool) : KOp :=
  match trBase X o with
  | none => .chk j m b (trD X.n o.dst) (opGenX all o)
  | some k => match o.guard with
    | none => match k with
      | .v f => .chk j m b (trD X.n o.dst) (opValX f)
      | .x f => .chk j m b (trD X.n o.dst) f
    | some (i, want) => match (all[i]?).bind (·.dst) with
      | some d => match d.blt X.n with
        | true => match k with
          | .v f => .chk j m b (trD X.n o.dst) (opWhenX (pl d) want (opValX f))
          | .x f => .chk j m b (trD X.n o.dst) (opWhenX (pl d) want f)
        | false => .chk j m b (trD X.n o.dst) (opGenX all o)
      | none => .chk j m b (trD X.n o.dst) (opGenX all o)
noncomputable def trOp (X : KT) (all : List Oper) (draw : Bool) (j : Nat) (o : Oper) : KOp :=
  match draw with
  | false => trPlain X all o
  | true => match still o.op with
    | true => trPlain X all o
    | false => match mustOf all j with
      | [] => match keepOf all j with
        | false => trPlain X all o
        | true => trChk X all o j [] true
      | m :: l => trChk X all o j (m :: l) (keepOf all j)
noncomputable def trOps (X : KT) (all : List Oper) (draw : Bool) : Nat → List Oper → List KOp
  | _, [] => []
  | j, o :: l => trOp X all draw j o :: trOps X all draw (j + 1) l
noncomputable def trC (X : KT) : Code → Kc
  | .skip => .skip
  | .region _ ops draw => .reg (trOps X ops.toList draw 0 ops.toList)
  | .seq a b => .seq (trC X a) (trC X b)
  | .cond c a b => match trO X.G c with
    | some c => .cond c (trC X a) (trC X b)
    | none => .bad
  | .block id c => .block id (trC X c)
  | .loop c => .loop (trC X c)
  | .exit id => .exit id
  | .label _ => .skip
  | .ret => .ret
  | .scope c => trC X c
  | _ => .bad
noncomputable def trR : ResultVar → Kr
  | .tmp t => match t.blt 1000 with
    | true => .t (pl t)
    | false => .g (.tmp t)
  | .cell a t => .g (.cell a t)
noncomputable def trFn (E : Env) (f : FuncId) (fn : Func) : KFn :=
  ⟨fn.ntmps, match fn.ntmps.blt 1000 with | false => .bad | true => match fn.body with | some c => trC ⟨E.T, E.prim, E.imm f, E.G, E.full, E.isLook, fn.ntmps⟩ c | none => .bad, fn.results.toList.map trR, E.imm f⟩
namespace Tr
/-- All of a tree, with its numbers. -/
def mapI {α β : Type} (g : Nat → α → β) : (Nat → Nat) → Tr α → Tr β
  | _, .leaf => .leaf
  | f, .node v l r => .node (match v with | some x => some (g (f 0) x) | none => none) (mapI g (fun k => f (2 * k + 1)) l) (mapI g (fun k => f (2 * k + 2)) r)
end Tr
noncomputable def ktable (E : Env) (t : Tr Func) : Tr KFn := Tr.mapI (trFn E) (fun k => k) t

end Go.VM
