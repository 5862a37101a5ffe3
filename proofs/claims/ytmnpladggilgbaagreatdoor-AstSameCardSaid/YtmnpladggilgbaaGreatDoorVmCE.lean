/-
  A part of the proof.
-/
import Derived.Test.YtmnpladggilgbaaGreatDoorVmCD
import Derived.Deep.RegionWith
import Derived.Deep.DeepCutAuto
import Derived.Deep.CutRange
import Derived.Deep.RegionHeld3
set_option maxRecDepth 1000000
set_option linter.unusedSimpArgs false
/- Law AstSame, walked: the first half. -/
namespace Go.Proofs.YtmnpladggilgbaaGreatDoor.Vm
open Go Go.VM Go.Proofs Go.Scope Go.RowKit
theorem c_aw (w : World) (hG : TabsAny vE.G w) : Calls Tryz.prog 5 #[] w fun e w' => e = .returned (.bool true) ∧ Below w.heap.size w w' :=
  law_runs vE_ok (orc_bare awake_run) Tryz.call5 hG rfl RL_nil
theorem c_ex2 {w0 w : World} {e1 : Exr} {x : Value} {v : AV} {n : Nat} (hG : TabsAny vE.G w) (H : Below w0.heap.size w0 w) (i1 : IsX e1 v) (r1 : VM.R (oldGh w0) v x) (h : (orc vE).bare 4 [v, .int .i64 (1000 : Nat)] = some (.int .i64 (n : Int))) :
    Calls Tryz.prog 4 #[x, .int .i64 1000] w fun e w' => e = .returned (.int .i64 (n : Int)) ∧ Below w.heap.size w w' := by
  obtain ⟨m, hm⟩ := (orc_ok vE).bare _ _ _ h
  refine (closedArgs vE_ok (hm m (Nat.le_refl _)) Tryz.call4 hG (by simp only [bares_cons, (isX_bare i1).1]; rfl) (RL_cons (stx_R H i1 r1) (RL_cons (by simp only [VM.R]; rfl) RL_nil))).mono ?_
  rintro e w' ⟨y, g, rfl, hy, hB⟩
  simp only [VM.R] at hy
  subst hy
  exact ⟨rfl, hB⟩
/-- Both expressions in their variables. -/
structure Ls (w0 : World) (n0 : Nat) (y1 y2 : Value) (w : World) : Prop where
  H : Below w0.heap.size w0 w
  B : ∀ t v, (cellsL [y1])[t]? = some v → w.cell? ⟨n0, t, none⟩ = some v
  C : ∀ t v, (cellsL [y2])[t]? = some v → w.cell? ⟨n0 + 1, t, none⟩ = some v
  z0 : w0.heap.size ≤ n0
  z1 : n0 + 1 < w.heap.size
theorem Ls.below {w0 : World} {n0 : Nat} {y1 y2 : Value} {w w' : World} (h : Ls w0 n0 y1 y2 w) (k : Below w.heap.size w w') : Ls w0 n0 y1 y2 w' := by
  have c : ∀ {b o v}, w.cell? ⟨b, o, none⟩ = some v → w'.cell? ⟨b, o, none⟩ = some v := fun {b o v} q => by rw [cell_congr (k.block b (cell_lt q))]; exact q
  exact ⟨h.H.trans (k.mono h.H.size), fun t v q => c (h.B t v q), fun t v q => c (h.C t v q), h.z0, Nat.lt_of_lt_of_le h.z1 k.size⟩
theorem Ls.new (w : World) (k1 a1 b1 : Int) (rc1 : Bool) (nm1 : ByteArray) (x1 z1 : Value) (k2 a2 b2 : Int) (rc2 : Bool) (nm2 : ByteArray) (x2 z2 : Value) :
    Ls w w.heap.size (eV k1 a1 b1 rc1 nm1 x1 z1) (eV k2 a2 b2 rc2 nm2 x2 z2) ((w.alloc (.cells #[.int .u8 k1, .int .i64 a1, .int .i64 b1, .bool rc1, .string nm1, x1, z1] 27)).alloc (.cells #[.int .u8 k2, .int .i64 a2, .int .i64 b2, .bool rc2, .string nm2, x2, z2] 27)) := by
  refine ⟨((Below.refl _ _).alloc (Nat.le_refl _) _).alloc (by simp) _, fun t v h => ?_, fun t v h => ?_, Nat.le_refl _, by simp⟩
  · rw [World.cell?_alloc_past _ _ _ (by simp)]
    rw [cell_of (World.heap_alloc_new)]; simpa [cellsL] using h
  · rw [show w.heap.size + 1 = (w.alloc (.cells #[.int .u8 k1, .int .i64 a1, .int .i64 b1, .bool rc1, .string nm1, x1, z1] 27)).heap.size by simp]
    rw [cell_of (World.heap_alloc_new)]; simpa [cellsL] using h
theorem Ls.all {w0 : World} {n0 : Nat} {k1 a1 b1 : Int} {rc1 : Bool} {nm1 : ByteArray} {x1 z1 : Value} {k2 a2 b2 : Int} {rc2 : Bool} {nm2 : ByteArray} {x2 z2 : Value} {w : World} (h : Ls w0 n0 (eV k1 a1 b1 rc1 nm1 x1 z1) (eV k2 a2 b2 rc2 nm2 x2 z2) w) :
    Ls w0 n0 (eV k1 a1 b1 rc1 nm1 x1 z1) (eV k2 a2 b2 rc2 nm2 x2 z2) w ∧ w.cell? ⟨n0, 0, none⟩ = some (.int .u8 k1) ∧ w.cell? ⟨n0, 1, none⟩ = some (.int .i64 a1) ∧ w.cell? ⟨n0, 2, none⟩ = some (.int .i64 b1) ∧ w.cell? ⟨n0, 3, none⟩ = some (.bool rc1) ∧ w.cell? ⟨n0, 4, none⟩ = some (.string nm1) ∧ w.cell? ⟨n0, 5, none⟩ = some (x1) ∧ w.cell? ⟨n0, 6, none⟩ = some (z1) ∧ w.cell? ⟨n0 + 1, 0, none⟩ = some (.int .u8 k2) ∧ w.cell? ⟨n0 + 1, 1, none⟩ = some (.int .i64 a2) ∧ w.cell? ⟨n0 + 1, 2, none⟩ = some (.int .i64 b2) ∧ w.cell? ⟨n0 + 1, 3, none⟩ = some (.bool rc2) ∧ w.cell? ⟨n0 + 1, 4, none⟩ = some (.string nm2) ∧ w.cell? ⟨n0 + 1, 5, none⟩ = some (x2) ∧ w.cell? ⟨n0 + 1, 6, none⟩ = some (z2) :=
  ⟨h, h.B 0 _ rfl, h.B 1 _ rfl, h.B 2 _ rfl, h.B 3 _ rfl, h.B 4 _ rfl, h.B 5 _ rfl, h.B 6 _ rfl, h.C 0 _ rfl, h.C 1 _ rfl, h.C 2 _ rfl, h.C 3 _ rfl, h.C 4 _ rfl, h.C 5 _ rfl, h.C 6 _ rfl⟩
/-- Where the list's variable may lie already. -/
structure Pk (w0 : World) (n0 : Nat) (y1 y2 : Value) (o : Option Nat) (w : World) : Prop where
  L : Ls w0 n0 y1 y2 w
  p : ∀ p, o = some p → w.cell? ⟨p, 0, none⟩ = some (.slice none 0 0) ∧ w.frozen? ⟨p, 0, none⟩ = false ∧ n0 + 1 < p
theorem Pk.alloc {w0 : World} {n0 : Nat} {y1 y2 : Value} {w : World} (h : Pk w0 n0 y1 y2 none w) : Pk w0 n0 y1 y2 (some w.heap.size) (w.alloc (.cells #[.slice none 0 0] 25)) :=
  ⟨h.L.below (by go_grown), fun p e => by
    cases e
    exact ⟨by rw [World.cell?_alloc_at _ _ _ _ rfl]; rfl, World.frozen?_alloc_at _ _ _ _ rfl, h.L.z1⟩⟩
theorem Pk.drew {w0 : World} {n0 : Nat} {y1 y2 : Value} {o : Option Nat} {w : World} (h : Pk w0 n0 y1 y2 o w) : Pk w0 n0 y1 y2 o w.drew := ⟨h.L.below (Below.refl _ _).drew, h.p⟩
theorem Ls.set {w0 : World} {n0 : Nat} {y1 y2 : Value} {w : World} {p : Nat} {u v : Value} (h : Ls w0 n0 y1 y2 w) (hu : w.cell? ⟨p, 0, none⟩ = some u) (hp : n0 + 1 < p) : Ls w0 n0 y1 y2 (w.setCell ⟨p, 0, none⟩ v) := by
  have k0 := fun k i => cell_set w v hu k i
  have z0 := h.z0
  have ne : ∀ {b o : Nat} {x : Value}, b < p → w.cell? ⟨b, o, none⟩ = some x → (w.setCell ⟨p, 0, none⟩ v).cell? ⟨b, o, none⟩ = some x := fun {b o x} q e => by rw [k0, if_neg (fun x => by omega)]; exact e
  have C := Chg.set w v hu (Nat.le_refl p) (Nat.lt_succ_self p)
  exact ⟨h.H.trans (C.below (by omega) h.H.size), fun t x q => ne (by omega) (h.B t x q), fun t x q => ne (by omega) (h.C t x q), h.z0, Nat.lt_of_lt_of_le h.z1 C.size⟩
def AllP (w0 : World) (n0 : Nat) (y1 y2 : Value) (o : Option Nat) (n : Nat) (xs : List Value) (e : Ending) (w' : World) : Prop :=
  ∃ gb cap, e = .returned (.slice (some ⟨gb, 0, none⟩) n cap) ∧ Pk w0 n0 y1 y2 o w' ∧ w'.ownsRow w0.heap.size 27 7 (.slice (some ⟨gb, 0, none⟩) n cap) n xs ∧ n0 + 1 < gb ∧ ∀ p, o = some p → gb ≠ p
theorem allP_of {w0 : World} {n0 : Nat} {y1 y2 : Value} {o : Option Nat} {w w' : World} {s s' : Value} {n : Nat} {xs : List Value} (P : Pk w0 n0 y1 y2 o w) (hn : 0 < n) (own : w'.ownsRow w0.heap.size 27 7 s' n xs) (G : Gr w w' s s')
    (hs : ∀ b, s.ownBlock = some b → n0 + 1 < b ∧ w0.heap.size ≤ b ∧ ∀ p, o = some p → b ≠ p) (h0 : n0 + 1 < w.heap.size) : AllP w0 n0 y1 y2 o n xs (.returned s') w' := by
  have hne : ∀ b, b ≤ n0 + 1 → some b ≠ s.ownBlock := fun b hb e => by have := (hs b e.symm).1; omega
  have hlt0 : n0 < w.heap.size := by omega
  have hB : Below w0.heap.size w0 w' := by
    refine ⟨G.rest.1.trans P.L.H.os, G.rest.2.1.trans P.L.H.tape, G.rest.2.2.trans P.L.H.output, Nat.le_trans P.L.H.size G.size, fun b hb => ?_⟩
    rw [G.block b (Nat.lt_of_lt_of_le hb P.L.H.size) (fun e => by have := (hs b e.symm).2.1; omega)]
    exact P.L.H.block b hb
  have L' : Ls w0 n0 y1 y2 w' := ⟨hB, fun t v h => G.cell (P.L.B t v h) (hne _ (by omega)), fun t v h => G.cell (P.L.C t v h) (hne _ (by omega)), P.L.z0, Nat.lt_of_lt_of_le h0 G.size⟩
  have hP : ∀ p, o = some p → some p ≠ s.ownBlock := fun p hp e => (hs p e.symm).2.2 p hp rfl
  have P' : Pk w0 n0 y1 y2 o w' := ⟨L', fun p hp => by
    obtain ⟨h1, h2, h3⟩ := P.p p hp
    exact ⟨G.cell h1 (hP p hp), by rw [frz_congr (G.block p (cell_lt h1) (hP p hp))]; exact h2, h3⟩⟩
  have own' := own
  rcases own'.2 with ⟨rfl, e⟩ | ⟨g, cap, cur, rfl, _⟩
  · omega
  · refine ⟨g, cap, rfl, P', own, ?_, fun p hp => ?_⟩
    · rcases G.place with e | ⟨b, e, hb⟩
      · exact (hs g e.symm).1
      · have e : some g = some b := e
        cases e; omega
    · rcases G.place with e | ⟨b, e, hb⟩
      · exact (hs g e.symm).2.2 p hp
      · have e : some g = some b := e
        cases e
        have := cell_lt (P.p p hp).1
        omega
/-- The list in its variable. -/
structure A5 (w0 : World) (n0 : Nat) (y1 y2 : Value) (n : Nat) (xs : List Value) (pl gb cap : Nat) (w : World) : Prop where
  L : Ls w0 n0 y1 y2 w
  cl : w.cell? ⟨pl, 0, none⟩ = some (.slice (some ⟨gb, 0, none⟩) n cap)
  row : ∀ i u, xs[i]? = some u → w.cell? ⟨gb, i, none⟩ = some u
  gz : gb < w.heap.size
theorem A5.below {w0 : World} {n0 : Nat} {y1 y2 : Value} {n : Nat} {xs : List Value} {pl gb cap : Nat} {w w' : World} (h : A5 w0 n0 y1 y2 n xs pl gb cap w) (k : Below w.heap.size w w') : A5 w0 n0 y1 y2 n xs pl gb cap w' := by
  have c : ∀ {b o v}, w.cell? ⟨b, o, none⟩ = some v → w'.cell? ⟨b, o, none⟩ = some v := fun {b o v} q => by rw [cell_congr (k.block b (cell_lt q))]; exact q
  exact ⟨h.L.below k, c h.cl, fun i u q => c (h.row i u q), Nat.lt_of_lt_of_le h.gz k.size⟩
theorem own_at {w : World} {base e n gb cap : Nat} {xs : List Value} {z : Nat} (own : w.ownsRow base e z (.slice (some ⟨gb, 0, none⟩) n cap) n xs) {i : Nat} {u : Value} (q : xs[i]? = some u) : w.cell? ⟨gb, i, none⟩ = some u := by
  have := own.cells rfl i u q
  rw [← this]
  by_cases h : i = 0
  · subst h; rfl
  · simp [Addr.add, h]
theorem A5.set {w0 : World} {n0 : Nat} {y1 y2 : Value} {n : Nat} {xs : List Value} {p gb cap : Nat} {w : World} {o : Option Nat} (P : Pk w0 n0 y1 y2 o w) (hp : o = some p) (own : w.ownsRow w0.heap.size 27 7 (.slice (some ⟨gb, 0, none⟩) n cap) n xs) (hg : ∀ p, o = some p → gb ≠ p) :
    A5 w0 n0 y1 y2 n xs p gb cap (w.setCell ⟨p, 0, none⟩ (.slice (some ⟨gb, 0, none⟩) n cap)) := by
  obtain ⟨h1, h2, h3⟩ := P.p p hp
  have k0 := fun k i => cell_set w (.slice (some ⟨gb, 0, none⟩) n cap) h1 k i
  refine ⟨P.L.set h1 h3, by rw [k0, if_pos ⟨rfl, rfl⟩], fun i u q => ?_, ?_⟩
  · rw [k0, if_neg (fun x => hg p hp x.1)]
    exact own_at own q
  · rw [World.setCell]; simpa using (own.lt gb rfl).2
theorem A5.new {w0 : World} {n0 : Nat} {y1 y2 : Value} {n : Nat} {xs : List Value} {gb cap : Nat} {w : World} {o : Option Nat} (P : Pk w0 n0 y1 y2 o w) (own : w.ownsRow w0.heap.size 27 7 (.slice (some ⟨gb, 0, none⟩) n cap) n xs) :
    A5 w0 n0 y1 y2 n xs w.heap.size gb cap (w.alloc (.cells #[.slice (some ⟨gb, 0, none⟩) n cap] 25)) := by
  have al : Below w.heap.size w (w.alloc (.cells #[.slice (some ⟨gb, 0, none⟩) n cap] 25)) := by go_grown
  refine ⟨P.L.below al, by rw [World.cell?_alloc_at _ _ _ _ rfl]; rfl, fun i u q => ?_, ?_⟩
  · have h : w.cell? ⟨gb, i, none⟩ = some u := own_at own q
    rw [cell_congr (al.block gb (cell_lt h))]; exact h
  · exact Nat.lt_of_lt_of_le (own.lt gb rfl).2 al.size
theorem k_nat (m : Int) (a b : Nat) (h : a + b ≤ 100000) : ∃ k : Nat, wrap64 ((IntKind.u64.wrap m).tmod ((a : Int) + (b : Int) + 2)) = (k : Int) ∧ k ≤ a + b + 1 := by
  have h1 : 0 ≤ IntKind.u64.wrap m := by rw [IntKind.wrap_u64]; omega
  generalize IntKind.u64.wrap m = u at *
  rw [Int.tmod_eq_emod_of_nonneg h1]
  have h2 := Int.emod_nonneg u (show ((a : Int) + (b : Int) + 2) ≠ 0 by omega)
  have h3 := Int.emod_lt_of_pos u (show 0 < ((a : Int) + (b : Int) + 2) by omega)
  generalize u % ((a : Int) + (b : Int) + 2) = v at *
  refine ⟨v.toNat, ?_, by omega⟩
  unfold wrap64
  omega
theorem js_new {w0 : World} {n0 : Nat} {y1 y2 : Value} {n : Nat} {xs : List Value} {pl gb cap : Nat} {w : World} (A : A5 w0 n0 y1 y2 n xs pl gb cap w) (L : List Value) (hx : xs = cellsL L) (hn : n = L.length) (kk : Nat) (l : Array Value) (t : TypeId) :
    Js w0 L (kk : Int) pl w.heap.size (w.heap.size + 1) (w.heap.size + 1 + 1) gb cap 0 ((((w.alloc (.cells #[.int .i64 (kk : Int)] 3)).alloc (.cells #[.int .i64 0] 3)).alloc (.cells #[.bool true] 4)).alloc (.cells l t)) ∧ (∀ i v, l[i]? = some v → ((((w.alloc (.cells #[.int .i64 (kk : Int)] 3)).alloc (.cells #[.int .i64 0] 3)).alloc (.cells #[.bool true] 4)).alloc (.cells l t)).cell? ⟨w.heap.size + 1 + 1 + 1, i, none⟩ = some v) := by
  subst hx
  subst hn
  have al : Below w.heap.size w ((((w.alloc (.cells #[.int .i64 (kk : Int)] 3)).alloc (.cells #[.int .i64 0] 3)).alloc (.cells #[.bool true] 4)).alloc (.cells l t)) := by go_grown
  have A' := A.below al
  have hp := cell_lt A.cl
  have gz := A.gz
  refine ⟨⟨A'.L.H, A'.cl, ?_, ?_, ?_, ?_, ?_, A'.row, by omega, by have := A.L.H.size; omega, by omega, by omega, by omega⟩, fun i v h => ?_⟩
  · rw [World.cell?_alloc_past _ _ _ (by first | (simp; done) | (simp; omega)), World.cell?_alloc_past _ _ _ (by first | (simp; done) | (simp; omega)), World.cell?_alloc_past _ _ _ (by simp), World.cell?_alloc_at _ _ _ _ rfl]; rfl
  · rw [World.cell?_alloc_past _ _ _ (by first | (simp; done) | (simp; omega)), World.cell?_alloc_past _ _ _ (by simp), World.cell?_alloc_at _ _ _ _ (by simp)]
    rfl
  · rw [World.cell?_alloc_past _ _ _ (by simp), World.cell?_alloc_at _ _ _ _ (by simp)]
    rfl
  · rw [World.frozen?_alloc_past _ _ _ (by first | (simp; done) | (simp; omega)), World.frozen?_alloc_past _ _ _ (by simp)]; exact World.frozen?_alloc_at _ _ _ _ (by simp)
  · rw [World.frozen?_alloc_past _ _ _ (by simp)]; exact World.frozen?_alloc_at _ _ _ _ (by simp)
  · rw [show w.heap.size + 1 + 1 + 1 = (((w.alloc (.cells #[.int .i64 (kk : Int)] 3)).alloc (.cells #[.int .i64 0] 3)).alloc (.cells #[.bool true] 4)).heap.size by simp]
    rw [cell_of World.heap_alloc_new]; exact h
theorem ne_of {a b n : Nat} (h : a ≤ b ∧ b < n) : ∀ p, some n = some p → b ≠ p := fun p e => by cases e; omega
/-- A law's end. -/
def LwQ (w0 : World) (e : Ending) (w' : World) : Prop := e = .returned (.bool true) ∧ Below w0.heap.size w0 w'
set_option maxHeartbeats 4000000 in
theorem walk_small {w0 : World} (hG : TabsAny vE.G w0) {e1 e2 : Exr} {v1 v2 : AV} {m : Int} {k1 a1 b1 : Int} {rc1 : Bool} {nm1 : ByteArray} {p1 : Option Addr} {l1 c1 : Nat} {q1 : Option Addr} {m1 d1 : Nat} {k2 a2 b2 : Int} {rc2 : Bool} {nm2 : ByteArray} {p2 : Option Addr} {l2 c2 : Nat} {q2 : Option Addr} {m2 d2 : Nat}
    (i1 : IsX e1 v1) (r1 : VM.R (oldGh w0) v1 (eV k1 a1 b1 rc1 nm1 (.slice p1 l1 c1) (.slice q1 m1 d1))) (i2 : IsX e2 v2) (r2 : VM.R (oldGh w0) v2 (eV k2 a2 b2 rc2 nm2 (.slice p2 l2 c2) (.slice q2 m2 d2)))
    {x1 x2 : Nat} (hx1 : (orc vE).bare 4 [v1, .int .i64 (1000 : Nat)] = some (.int .i64 (x1 : Int))) (hx2 : (orc vE).bare 4 [v2, .int .i64 (1000 : Nat)] = some (.int .i64 (x2 : Int))) (h1 : x1 < 1000) (h2 : x2 < 1000) (hn1 : (Scope.allE e1).length < 1000) (hn2 : (Scope.allE e2).length < 1000) :
    Calls Tryz.prog 3 #[eV k1 a1 b1 rc1 nm1 (.slice p1 l1 c1) (.slice q1 m1 d1), eV k2 a2 b2 rc2 nm2 (.slice p2 l2 c2) (.slice q2 m2 d2), .int .i64 m] w0 (LwQ w0) := by
  have L0 := Ls.new w0 k1 a1 b1 rc1 nm1 (.slice p1 l1 c1) (.slice q1 m1 d1) k2 a2 b2 rc2 nm2 (.slice p2 l2 c2) (.slice q2 m2 d2)
  have HE1 : Hid (∀ w, Below w0.heap.size w0 w → Calls Tryz.prog 4 #[eV k1 a1 b1 rc1 nm1 (.slice p1 l1 c1) (.slice q1 m1 d1), .int .i64 1000] w fun e w' => e = .returned (.int .i64 (x1 : Int)) ∧ Below w.heap.size w w') := fun w H => c_ex2 (hG.below H) H i1 r1 hx1
  have HE2 : Hid (∀ w, Below w0.heap.size w0 w → Calls Tryz.prog 4 #[eV k2 a2 b2 rc2 nm2 (.slice p2 l2 c2) (.slice q2 m2 d2), .int .i64 1000] w fun e w' => e = .returned (.int .i64 (x2 : Int)) ∧ Below w.heap.size w w') := fun w H => c_ex2 (hG.below H) H i2 r2 hx2
  have S1 : Hid (StX w0 e1 (eV k1 a1 b1 rc1 nm1 (.slice p1 l1 c1) (.slice q1 m1 d1))) := ⟨v1, i1, r1⟩
  have S2 : Hid (StX w0 e2 (eV k2 a2 b2 rc2 nm2 (.slice p2 l2 c2) (.slice q2 m2 d2))) := ⟨v2, i2, r2⟩
  have HG := Lib.hid hG
  have I1 := Lib.hid i1
  have I2 := Lib.hid i2
  have R1 := Lib.hid r1
  have R2 := Lib.hid r2
  clear hx1 hx2 i1 i2 r1 r2 hG
  have g0 := L0.B 0 _ rfl
  have g1 := L0.B 1 _ rfl
  have g2 := L0.B 2 _ rfl
  have g3 := L0.B 3 _ rfl
  have g4 := L0.B 4 _ rfl
  have g5 := L0.B 5 _ rfl
  have g6 := L0.B 6 _ rfl
  go_enter Tryz.func3, Tryz.ntmps3
  go_wp2_with fail
  refine (HE1.out _ L0.H).mono ?_
  rintro e w1 ⟨rfl, B1⟩
  have L1 := L0.below B1
  clear L0 B1 g0 g1 g2 g3 g4 g5 g6
  have g0 := L1.C 0 _ rfl
  have g1 := L1.C 1 _ rfl
  have g2 := L1.C 2 _ rfl
  have g3 := L1.C 3 _ rfl
  have g4 := L1.C 4 _ rfl
  have g5 := L1.C 5 _ rfl
  have g6 := L1.C 6 _ rfl
  go_wp2_with fail
  refine (HE2.out _ L1.H).mono ?_
  rintro e w2 ⟨rfl, B2⟩
  have L2 := L1.below B2
  clear L1 B2 g0 g1 g2 g3 g4 g5 g6
  go_wp2_with fail
  go_cut [33] (fun s wx => s = .bool false ∧ Ls w0 w0.heap.size (eV k1 a1 b1 rc1 nm1 (.slice p1 l1 c1) (.slice q1 m1 d1)) (eV k2 a2 b2 rc2 nm2 (.slice p2 l2 c2) (.slice q2 m2 d2)) wx)
  case first =>
    obtain ⟨bb, hb⟩ : ∃ b, sameE false e1 e2 = b := ⟨_, rfl⟩
    have HA : Hid (∀ w, Ls w0 w0.heap.size (eV k1 a1 b1 rc1 nm1 (.slice p1 l1 c1) (.slice q1 m1 d1)) (eV k2 a2 b2 rc2 nm2 (.slice p2 l2 c2) (.slice q2 m2 d2)) w → Calls Tryz.prog 6 #[eV k1 a1 b1 rc1 nm1 (.slice p1 l1 c1) (.slice q1 m1 d1), eV k2 a2 b2 rc2 nm2 (.slice p2 l2 c2) (.slice q2 m2 d2)] w fun e w' => e = .returned (.bool bb) ∧ Ls w0 w0.heap.size (eV k1 a1 b1 rc1 nm1 (.slice p1 l1 c1) (.slice q1 m1 d1)) (eV k2 a2 b2 rc2 nm2 (.slice p2 l2 c2) (.slice q2 m2 d2)) w') := fun w L => (c_gs bb (HG.out.below L.H) L.H S1.out S2.out hb).mono fun e w' h => ⟨h.1, L.below h.2⟩
    have HB : Hid (∀ w, Ls w0 w0.heap.size (eV k1 a1 b1 rc1 nm1 (.slice p1 l1 c1) (.slice q1 m1 d1)) (eV k2 a2 b2 rc2 nm2 (.slice p2 l2 c2) (.slice q2 m2 d2)) w → Calls Tryz.prog 7 #[eV k1 a1 b1 rc1 nm1 (.slice p1 l1 c1) (.slice q1 m1 d1), eV k2 a2 b2 rc2 nm2 (.slice p2 l2 c2) (.slice q2 m2 d2), .bool false] w fun e w' => e = .returned (.bool bb) ∧ Ls w0 w0.heap.size (eV k1 a1 b1 rc1 nm1 (.slice p1 l1 c1) (.slice q1 m1 d1)) (eV k2 a2 b2 rc2 nm2 (.slice p2 l2 c2) (.slice q2 m2 d2)) w') := fun w L => (c_rs false bb (HG.out.below L.H) L.H S1.out S2.out hb).mono fun e w' h => ⟨h.1, L.below h.2⟩
    have HC : Hid (∀ w, Ls w0 w0.heap.size (eV k1 a1 b1 rc1 nm1 (.slice p1 l1 c1) (.slice q1 m1 d1)) (eV k2 a2 b2 rc2 nm2 (.slice p2 l2 c2) (.slice q2 m2 d2)) w → Calls Tryz.prog 6 #[eV k1 a1 b1 rc1 nm1 (.slice p1 l1 c1) (.slice q1 m1 d1), eV k1 a1 b1 rc1 nm1 (.slice p1 l1 c1) (.slice q1 m1 d1)] w fun e w' => e = .returned (.bool true) ∧ Ls w0 w0.heap.size (eV k1 a1 b1 rc1 nm1 (.slice p1 l1 c1) (.slice q1 m1 d1)) (eV k2 a2 b2 rc2 nm2 (.slice p2 l2 c2) (.slice q2 m2 d2)) w') := fun w L => (c_gs true (HG.out.below L.H) L.H S1.out S1.out (same_refl false e1)).mono fun e w' h => ⟨h.1, L.below h.2⟩
    have L3 := L2.below (Below.refl w2.heap.size w2).drew
    clear hb
    cases bb
    all_goals go_region_held3 (fun wx => Ls w0 w0.heap.size (eV k1 a1 b1 rc1 nm1 (.slice p1 l1 c1) (.slice q1 m1 d1)) (eV k2 a2 b2 rc2 nm2 (.slice p2 l2 c2) (.slice q2 m2 d2)) wx ∧ wx.cell? ⟨w0.heap.size, 0, none⟩ = some (.int .u8 k1) ∧ wx.cell? ⟨w0.heap.size, 1, none⟩ = some (.int .i64 a1) ∧ wx.cell? ⟨w0.heap.size, 2, none⟩ = some (.int .i64 b1) ∧ wx.cell? ⟨w0.heap.size, 3, none⟩ = some (.bool rc1) ∧ wx.cell? ⟨w0.heap.size, 4, none⟩ = some (.string nm1) ∧ wx.cell? ⟨w0.heap.size, 5, none⟩ = some ((.slice p1 l1 c1)) ∧ wx.cell? ⟨w0.heap.size, 6, none⟩ = some ((.slice q1 m1 d1)) ∧ wx.cell? ⟨w0.heap.size + 1, 0, none⟩ = some (.int .u8 k2) ∧ wx.cell? ⟨w0.heap.size + 1, 1, none⟩ = some (.int .i64 a2) ∧ wx.cell? ⟨w0.heap.size + 1, 2, none⟩ = some (.int .i64 b2) ∧ wx.cell? ⟨w0.heap.size + 1, 3, none⟩ = some (.bool rc2) ∧ wx.cell? ⟨w0.heap.size + 1, 4, none⟩ = some (.string nm2) ∧ wx.cell? ⟨w0.heap.size + 1, 5, none⟩ = some ((.slice p2 l2 c2)) ∧ wx.cell? ⟨w0.heap.size + 1, 6, none⟩ = some ((.slice q2 m2 d2))) (exact Ls.all (by assumption)) (first
      | (go_at_call 6; (with_reducible refine (HA.out _ (by assumption)).mono ?_); rintro e wq ⟨rfl, Lq⟩)
      | (go_at_call 7; (with_reducible refine (HB.out _ (by assumption)).mono ?_); rintro e wq ⟨rfl, Lq⟩)
      | (go_at_call 6; (with_reducible refine (HC.out _ (by assumption)).mono ?_); rintro e wq ⟨rfl, Lq⟩))
    all_goals go_wp2_with fail
    all_goals go_meet
    all_goals exact ⟨rfl, Lq⟩
  case rest =>
    obtain ⟨rfl, L3⟩ := hcut
    clear L2
    go_wp2_with fail
    have L4 := L3.below (Below.refl wc.heap.size wc).drew
    have P4 : Pk w0 w0.heap.size (eV k1 a1 b1 rc1 nm1 (.slice p1 l1 c1) (.slice q1 m1 d1)) (eV k2 a2 b2 rc2 nm2 (.slice p2 l2 c2) (.slice q2 m2 d2)) none wc.drew := ⟨L4, fun p e => by cases e⟩
    have hp1 := all_pos e1
    have HA : Hid (∀ o w, Pk w0 w0.heap.size (eV k1 a1 b1 rc1 nm1 (.slice p1 l1 c1) (.slice q1 m1 d1)) (eV k2 a2 b2 rc2 nm2 (.slice p2 l2 c2) (.slice q2 m2 d2)) o w → Calls Tryz.prog 8 #[.slice none 0 0, eV k1 a1 b1 rc1 nm1 (.slice p1 l1 c1) (.slice q1 m1 d1)] w (AllP w0 w0.heap.size (eV k1 a1 b1 rc1 nm1 (.slice p1 l1 c1) (.slice q1 m1 d1)) (eV k2 a2 b2 rc2 nm2 (.slice p2 l2 c2) (.slice q2 m2 d2)) o (Scope.allE e1).length (cellsL (pre (oldGh w0) e1 (eV k1 a1 b1 rc1 nm1 (.slice p1 l1 c1) (.slice q1 m1 d1)))))) := fun o w P => (c_all w0 _ e1 (Nat.lt_succ_self _) v1 _ _ _ _ _ _ _ (.slice none 0 0) 0 [] w I1.out R1.out P.L.H (World.ownsRow_nil _ _ _ _) (by omega)).mono (by
      rintro e w' ⟨s', rfl, own, G⟩
      rw [Nat.zero_add, List.nil_append] at own
      exact allP_of P (by omega) own G (fun b e => by cases e) P.L.z1)
    have HB : Hid (∀ o gb cap n xs w, Pk w0 w0.heap.size (eV k1 a1 b1 rc1 nm1 (.slice p1 l1 c1) (.slice q1 m1 d1)) (eV k2 a2 b2 rc2 nm2 (.slice p2 l2 c2) (.slice q2 m2 d2)) o w → n < 1000 → w.ownsRow w0.heap.size 27 7 (.slice (some ⟨gb, 0, none⟩) n cap) n xs → w0.heap.size + 1 < gb → (∀ p, o = some p → gb ≠ p) → Calls Tryz.prog 8 #[.slice (some ⟨gb, 0, none⟩) n cap, eV k2 a2 b2 rc2 nm2 (.slice p2 l2 c2) (.slice q2 m2 d2)] w (AllP w0 w0.heap.size (eV k1 a1 b1 rc1 nm1 (.slice p1 l1 c1) (.slice q1 m1 d1)) (eV k2 a2 b2 rc2 nm2 (.slice p2 l2 c2) (.slice q2 m2 d2)) o (n + (Scope.allE e2).length) (xs ++ cellsL (pre (oldGh w0) e2 (eV k2 a2 b2 rc2 nm2 (.slice p2 l2 c2) (.slice q2 m2 d2)))))) := fun o gb cap n xs w P hn own hg hne => (c_all w0 _ e2 (Nat.lt_succ_self _) v2 _ _ _ _ _ _ _ _ n xs w I2.out R2.out P.L.H own (by omega)).mono (by
      rintro e w' ⟨s', rfl, own', G⟩
      exact allP_of P (by have := all_pos e2; omega) own' G (fun b e => by have e : some gb = some b := e; cases e; exact ⟨hg, by omega, hne⟩) P.L.z1)
    clear hp1
    have P3 : Pk w0 w0.heap.size (eV k1 a1 b1 rc1 nm1 (.slice p1 l1 c1) (.slice q1 m1 d1)) (eV k2 a2 b2 rc2 nm2 (.slice p2 l2 c2) (.slice q2 m2 d2)) none wc := ⟨L3, fun p e => by cases e⟩
    go_cut [7] (fun s wx => ∃ pl gb cap, s = .pointer (some ⟨pl, 0, none⟩) ∧ A5 w0 w0.heap.size (eV k1 a1 b1 rc1 nm1 (.slice p1 l1 c1) (.slice q1 m1 d1)) (eV k2 a2 b2 rc2 nm2 (.slice p2 l2 c2) (.slice q2 m2 d2)) ((Scope.allE e1).length + (Scope.allE e2).length) (cellsL (pre (oldGh w0) e1 (eV k1 a1 b1 rc1 nm1 (.slice p1 l1 c1) (.slice q1 m1 d1))) ++ cellsL (pre (oldGh w0) e2 (eV k2 a2 b2 rc2 nm2 (.slice p2 l2 c2) (.slice q2 m2 d2)))) pl gb cap wx)
    case first =>
      go_region_held3 (fun wx => Ls w0 w0.heap.size (eV k1 a1 b1 rc1 nm1 (.slice p1 l1 c1) (.slice q1 m1 d1)) (eV k2 a2 b2 rc2 nm2 (.slice p2 l2 c2) (.slice q2 m2 d2)) wx ∧ wx.cell? ⟨w0.heap.size, 0, none⟩ = some (.int .u8 k1) ∧ wx.cell? ⟨w0.heap.size, 1, none⟩ = some (.int .i64 a1) ∧ wx.cell? ⟨w0.heap.size, 2, none⟩ = some (.int .i64 b1) ∧ wx.cell? ⟨w0.heap.size, 3, none⟩ = some (.bool rc1) ∧ wx.cell? ⟨w0.heap.size, 4, none⟩ = some (.string nm1) ∧ wx.cell? ⟨w0.heap.size, 5, none⟩ = some ((.slice p1 l1 c1)) ∧ wx.cell? ⟨w0.heap.size, 6, none⟩ = some ((.slice q1 m1 d1)) ∧ wx.cell? ⟨w0.heap.size + 1, 0, none⟩ = some (.int .u8 k2) ∧ wx.cell? ⟨w0.heap.size + 1, 1, none⟩ = some (.int .i64 a2) ∧ wx.cell? ⟨w0.heap.size + 1, 2, none⟩ = some (.int .i64 b2) ∧ wx.cell? ⟨w0.heap.size + 1, 3, none⟩ = some (.bool rc2) ∧ wx.cell? ⟨w0.heap.size + 1, 4, none⟩ = some (.string nm2) ∧ wx.cell? ⟨w0.heap.size + 1, 5, none⟩ = some ((.slice p2 l2 c2)) ∧ wx.cell? ⟨w0.heap.size + 1, 6, none⟩ = some ((.slice q2 m2 d2))) (first | exact Ls.all (by assumption) | exact (Ls.set Lr hp1 hp3).all | exact (Ls.below Lr (by go_grown)).all | exact (Ls.below Lq (by go_grown)).all | exact (Ls.below L3 (by go_grown)).all) (first
        | (go_at_call 8; (with_reducible refine (HA.out (some _) _ (Pk.drew (Pk.alloc P3))).mono ?_); rintro e wq ⟨gb, cap, rfl, P5, own5, hg5, hn5⟩; have Lq := P5.L)
        | (go_at_call 8; (with_reducible refine (HA.out none _ P4).mono ?_); rintro e wq ⟨gb, cap, rfl, P5, own5, hg5, hn5⟩; have Lq := P5.L)
        | (go_at_call 8; have hx5 := own5.lt _ rfl; (with_reducible refine (HB.out (some _) _ _ _ _ _ (Pk.alloc P5) hn1 (own5.alloc _) hg5 (ne_of hx5)).mono ?_); rintro e wr ⟨gb2, cap2, rfl, P6, own6, hg6, hn6⟩; have Lr := P6.L; obtain ⟨hp1, hp2, hp3⟩ := P6.p _ rfl)
        | (go_at_call 8; (with_reducible refine (HB.out (some _) _ _ _ _ _ P5 hn1 own5 hg5 hn5).mono ?_); rintro e wr ⟨gb2, cap2, rfl, P6, own6, hg6, hn6⟩; have Lr := P6.L; obtain ⟨hp1, hp2, hp3⟩ := P6.p _ rfl)
        | (go_at_call 8; (with_reducible refine (HB.out none _ _ _ _ _ P5 hn1 own5 hg5 hn5).mono ?_); rintro e wr ⟨gb2, cap2, rfl, P6, own6, hg6, hn6⟩; have Lr := P6.L))
      all_goals go_wp2_with fail
      all_goals go_meet
      · exact ⟨_, _, _, rfl, A5.new P6 own6⟩
      · exact ⟨_, _, _, rfl, A5.set P6 rfl own6 hn6⟩
      · exact ⟨_, _, _, rfl, A5.set P6 rfl own6 hn6⟩
    case rest =>
      obtain ⟨pl, gb, cap, rfl, A⟩ := hcut
      clear HA HB P3 P4 L3 L4
      have HAA := Lib.hid A
      have cl := A.cl
      obtain ⟨kk, hkk, hkl⟩ := k_nat m (Scope.allE e1).length (Scope.allE e2).length (by omega)
      have al : Below wc.heap.size wc (((wc.alloc (.cells #[.int .i64 (kk : Int)] 3)).alloc (.cells #[.int .i64 0] 3)).alloc (.cells #[.bool true] 4)) := by go_grown
      have A1 := A.below al
      have g0 := A1.L.B 0 _ rfl
      have g1 := A1.L.B 1 _ rfl
      have g2 := A1.L.B 2 _ rfl
      have g3 := A1.L.B 3 _ rfl
      have g4 := A1.L.B 4 _ rfl
      have g5 := A1.L.B 5 _ rfl
      have g6 := A1.L.B 6 _ rfl
      have u0 := A1.L.C 0 _ rfl
      have u1 := A1.L.C 1 _ rfl
      have u2 := A1.L.C 2 _ rfl
      have u3 := A1.L.C 3 _ rfl
      have u4 := A1.L.C 4 _ rfl
      have u5 := A1.L.C 5 _ rfl
      have u6 := A1.L.C 6 _ rfl
      have hmf : ∀ (fn : Fn) (first cap : Array Value) (w : World), (Instr.makeFunc fn first cap).run Tryz.prog w = .ok (.func fn first cap) w := fun _ _ _ _ => rfl
      have AX := Lib.hid A
      clear A1 A al
      obtain ⟨L, hL⟩ : ∃ L, L = pre (oldGh w0) e1 (eV k1 a1 b1 rc1 nm1 (.slice p1 l1 c1) (.slice q1 m1 d1)) ++ pre (oldGh w0) e2 (eV k2 a2 b2 rc2 nm2 (.slice p2 l2 c2) (.slice q2 m2 d2)) := ⟨_, rfl⟩
      have hLn : L.length = (Scope.allE e1).length + (Scope.allE e2).length := by rw [hL, List.length_append, pre_all, pre_all]
      have hLc : cellsL (pre (oldGh w0) e1 (eV k1 a1 b1 rc1 nm1 (.slice p1 l1 c1) (.slice q1 m1 d1))) ++ cellsL (pre (oldGh w0) e2 (eV k2 a2 b2 rc2 nm2 (.slice p2 l2 c2) (.slice q2 m2 d2))) = cellsL L := by rw [hL, cellsL_append]
      have hLX : AllX (oldGh w0) L := by rw [hL]; exact (pre_allX I1.out R1.out).append (pre_allX I2.out R2.out)
      obtain ⟨r, hr⟩ : ∃ r, decide (((Scope.allE e1).length : Int) + ((Scope.allE e2).length : Int) < (kk : Int)) = r := ⟨_, rfl⟩
      have hp1 := all_pos e1
      have hr2 : decide (L.length < max 1 kk) = r := by
        rw [← hr]
        apply decide_eq_decide.2
        rw [hLn]; omega
      obtain ⟨n, hn⟩ : ∃ n, min L.length (max 1 kk) = n := ⟨_, rfl⟩
      have hmx : max 1 (min (kk : Int) (((Scope.allE e1).length : Int) + ((Scope.allE e2).length : Int))) = (n : Int) := by rw [← hn, hLn]; omega
      have hLL := Lib.hid hL
      have hLN := Lib.hid hLn
      have hLC := Lib.hid hLc
      have HLX := Lib.hid hLX
      have HR2 := Lib.hid hr2
      have HN := Lib.hid hn
      have HEA : Hid (∀ bb bc pk pn pr w, Js w0 L (kk : Int) pl pk pn pr gb cap 0 w → pr < bb → (∀ t v, (bindCells k1 a1 b1 rc1 nm1 (.slice p1 l1 c1) (.slice q1 m1 d1) ++ bindCells k2 a2 b2 rc2 nm2 (.slice p2 l2 c2) (.slice q2 m2 d2))[t]? = some v → w.cell? ⟨bb, t, none⟩ = some v) →
          Calls Tryz.prog 9 #[.slice (some ⟨bb, 0, none⟩) 2 bc, cloV pr pn pl pk] w (EaQ w0 L (kk : Int) pl pk pn pr gb cap n r w)) := fun bb bc pk pn pr w J hb hc => by
        have h := c_Each (bc := bc) HG.out hLX (by rw [hLn]; omega) (K := max 1 kk) (by intro i; omega) (by omega) S1.out S2.out hL J hb hc hr2
        rw [hn] at h
        exact h
      clear hL hLn hLc hLX hr2 hn hp1
      go_wp2_with fail
      obtain ⟨J, hcc⟩ := js_new AX.out L hLC.out hLN.out.symm kk #[.int .i64 0, .int .i64 0, .bool false, .slice none 0 0, .int .u8 k1, .int .i64 a1, .int .i64 b1, .bool rc1, .string nm1, .slice p1 l1 c1, .slice q1 m1 d1, .int .i64 0, .int .i64 0, .bool false, .slice none 0 0, .int .u8 k2, .int .i64 a2, .int .i64 b2, .bool rc2, .string nm2, .slice p2 l2 c2, .slice q2 m2 d2] 36
      refine (HEA.out _ _ _ _ _ _ J (Nat.lt_succ_self _) (fun t v h => hcc t v (by simpa using h))).mono ?_
      clear hcc J g0 g1 g2 g3 g4 g5 g6 u0 u1 u2 u3 u4 u5 u6 cl
      rintro e w3 ⟨rfl, J3, _⟩
      have cl := J3.cl
      rw [hLN.out] at cl
      have ck := J3.ck
      have cn := J3.cn
      have cr := J3.cr
      have HJ := Lib.hid J3
      clear J3 HEA
      go_wp2_with fail
      refine (c_ecnil _ _).mono ?_
      rintro e w4 ⟨rfl, rfl⟩
      go_wp2_with fail
      refine (c_ecnil _ _).mono ?_
      rintro e w4 ⟨rfl, rfl⟩
      have H4 : Hid (Below w0.heap.size w0 (w3.alloc (.cells #[.int .i64 0, .int .i64 0, .bool false, .slice none 0 0, .int .u8 0, .int .i64 0, .int .i64 0, .bool false, .string .empty, .slice none 0 0, .slice none 0 0] 36))) := Lib.hid (HJ.out.H.alloc HJ.out.H.size _)
      go_wp2_with fail
      refine (c_aw _ (HG.out.below H4.out)).mono ?_
      rintro e w5 ⟨rfl, B5⟩
      have H5 : Hid (Below w0.heap.size w0 w5) := Lib.hid (H4.out.trans (B5.mono H4.out.size))
      clear B5
      go_wp2_with fail
      go_ret
      exact ⟨rfl, H5.out⟩
set_option maxHeartbeats 4000000 in
theorem walk_large1 {w0 : World} (hG : TabsAny vE.G w0) {e1 : Exr} {v1 : AV} {m : Int} {k1 a1 b1 : Int} {rc1 : Bool} {nm1 : ByteArray} {x1 z1 : Value} {k2 a2 b2 : Int} {rc2 : Bool} {nm2 : ByteArray} {x2 z2 : Value}
    (i1 : IsX e1 v1) (r1 : VM.R (oldGh w0) v1 (eV k1 a1 b1 rc1 nm1 x1 z1)) {n1 : Nat} (hx1 : (orc vE).bare 4 [v1, .int .i64 (1000 : Nat)] = some (.int .i64 (n1 : Int))) (h1 : 1000 ≤ n1) :
    Calls Tryz.prog 3 #[eV k1 a1 b1 rc1 nm1 x1 z1, eV k2 a2 b2 rc2 nm2 x2 z2, .int .i64 m] w0 (LwQ w0) := by
  have L0 := Ls.new w0 k1 a1 b1 rc1 nm1 x1 z1 k2 a2 b2 rc2 nm2 x2 z2
  have HE1 : Hid (∀ w, Below w0.heap.size w0 w → Calls Tryz.prog 4 #[eV k1 a1 b1 rc1 nm1 x1 z1, .int .i64 1000] w fun e w' => e = .returned (.int .i64 (n1 : Int)) ∧ Below w.heap.size w w') := fun w H => c_ex2 (hG.below H) H i1 r1 hx1
  have HG := Lib.hid hG
  have g0 := L0.B 0 _ rfl
  have g1 := L0.B 1 _ rfl
  have g2 := L0.B 2 _ rfl
  have g3 := L0.B 3 _ rfl
  have g4 := L0.B 4 _ rfl
  have g5 := L0.B 5 _ rfl
  have g6 := L0.B 6 _ rfl
  clear hx1 i1 r1 hG
  go_enter Tryz.func3, Tryz.ntmps3
  go_wp2_with fail
  refine (HE1.out _ L0.H).mono ?_
  rintro e w1 ⟨rfl, B1⟩
  have L1 := L0.below B1
  clear L0 B1 g0 g1 g2 g3 g4 g5 g6
  go_wp2_with fail
  refine (c_aw _ (HG.out.below L1.H)).mono ?_
  rintro e w5 ⟨rfl, B5⟩
  have H5 : Hid (Below w0.heap.size w0 w5) := Lib.hid (L1.H.trans (B5.mono L1.H.size))
  clear B5 L1
  go_wp2_with fail
  go_ret
  exact ⟨rfl, H5.out⟩
set_option maxHeartbeats 4000000 in
theorem walk_large2 {w0 : World} (hG : TabsAny vE.G w0) {e1 e2 : Exr} {v1 v2 : AV} {m : Int} {k1 a1 b1 : Int} {rc1 : Bool} {nm1 : ByteArray} {x1 z1 : Value} {k2 a2 b2 : Int} {rc2 : Bool} {nm2 : ByteArray} {x2 z2 : Value}
    (i1 : IsX e1 v1) (r1 : VM.R (oldGh w0) v1 (eV k1 a1 b1 rc1 nm1 x1 z1)) (i2 : IsX e2 v2) (r2 : VM.R (oldGh w0) v2 (eV k2 a2 b2 rc2 nm2 x2 z2)) {n1 n2 : Nat} (hx1 : (orc vE).bare 4 [v1, .int .i64 (1000 : Nat)] = some (.int .i64 (n1 : Int))) (hx2 : (orc vE).bare 4 [v2, .int .i64 (1000 : Nat)] = some (.int .i64 (n2 : Int))) (h1 : n1 < 1000) (h2 : 1000 ≤ n2) :
    Calls Tryz.prog 3 #[eV k1 a1 b1 rc1 nm1 x1 z1, eV k2 a2 b2 rc2 nm2 x2 z2, .int .i64 m] w0 (LwQ w0) := by
  have L0 := Ls.new w0 k1 a1 b1 rc1 nm1 x1 z1 k2 a2 b2 rc2 nm2 x2 z2
  have HE1 : Hid (∀ w, Below w0.heap.size w0 w → Calls Tryz.prog 4 #[eV k1 a1 b1 rc1 nm1 x1 z1, .int .i64 1000] w fun e w' => e = .returned (.int .i64 (n1 : Int)) ∧ Below w.heap.size w w') := fun w H => c_ex2 (hG.below H) H i1 r1 hx1
  have HE2 : Hid (∀ w, Below w0.heap.size w0 w → Calls Tryz.prog 4 #[eV k2 a2 b2 rc2 nm2 x2 z2, .int .i64 1000] w fun e w' => e = .returned (.int .i64 (n2 : Int)) ∧ Below w.heap.size w w') := fun w H => c_ex2 (hG.below H) H i2 r2 hx2
  have HG := Lib.hid hG
  have g0 := L0.B 0 _ rfl
  have g1 := L0.B 1 _ rfl
  have g2 := L0.B 2 _ rfl
  have g3 := L0.B 3 _ rfl
  have g4 := L0.B 4 _ rfl
  have g5 := L0.B 5 _ rfl
  have g6 := L0.B 6 _ rfl
  clear hx1 hx2 i1 r1 i2 r2 hG
  go_enter Tryz.func3, Tryz.ntmps3
  go_wp2_with fail
  refine (HE1.out _ L0.H).mono ?_
  rintro e w1 ⟨rfl, B1⟩
  have L1 := L0.below B1
  clear L0 B1 g0 g1 g2 g3 g4 g5 g6
  have g0 := L1.C 0 _ rfl
  have g1 := L1.C 1 _ rfl
  have g2 := L1.C 2 _ rfl
  have g3 := L1.C 3 _ rfl
  have g4 := L1.C 4 _ rfl
  have g5 := L1.C 5 _ rfl
  have g6 := L1.C 6 _ rfl
  go_wp2_with fail
  refine (HE2.out _ L1.H).mono ?_
  rintro e w2 ⟨rfl, B2⟩
  have L2 := L1.below B2
  clear L1 B2 g0 g1 g2 g3 g4 g5 g6
  go_wp2_with fail
  refine (c_aw _ (HG.out.below L2.H)).mono ?_
  rintro e w5 ⟨rfl, B5⟩
  have H5 : Hid (Below w0.heap.size w0 w5) := Lib.hid (L2.H.trans (B5.mono L2.H.size))
  clear B5 L2
  go_wp2_with fail
  go_ret
  exact ⟨rfl, H5.out⟩
theorem xval2 {e : Exr} {v : AV} {g : Gh} {y : Value} (h : IsX e v) (hr : VM.R g v y) : ∃ (k a b : Int) (rc : Bool) (nm : ByteArray) (p : Option Addr) (l c : Nat) (q : Option Addr) (m d : Nat), y = eV k a b rc nm (.slice p l c) (.slice q m d) := by
  obtain ⟨k, sp, rc, nm, ps, ls, x1, es1, x2, es2, rfl, rfl, hx1, hs1, hx2, hs2⟩ := isX_open h
  obtain ⟨y0, y1, y2, y3, y4, y5, y6, rfl, r0, r1, r2, r3, r4, r5, r6⟩ := agg7 hr
  simp only [VM.R] at r0 r1 r2 r3 r4
  subst r0; subst r1; subst r2; subst r3; subst r4
  obtain ⟨a5, c5, e5, _, _⟩ := slv hx1 r5
  obtain ⟨a6, c6, e6, _, _⟩ := slv hx2 r6
  subst e5; subst e6
  exact ⟨_, _, _, _, _, _, _, _, _, _, _, rfl⟩
theorem law_walk (w0 : World) (hG : TabsAny vE.G w0) {e1 e2 : Exr} {v1 v2 : AV} (m : Int) {y1 y2 : Value} (i1 : IsX e1 v1) (r1 : VM.R (oldGh w0) v1 y1) (i2 : IsX e2 v2) (r2 : VM.R (oldGh w0) v2 y2) :
    Calls Tryz.prog 3 #[y1, y2, .int .i64 m] w0 fun e w' => e = .returned (.bool true) ∧ Below w0.heap.size w0 w' := by
  obtain ⟨n1, c1, hx1⟩ := exprs_cnt (k := 1000) i1 (by omega) (by omega)
  obtain ⟨n2, c2, hx2⟩ := exprs_cnt (k := 1000) i2 (by omega) (by omega)
  obtain ⟨k1, a1, b1, rc1, nm1, p1, l1, d1, q1, m1, f1, rfl⟩ := xval2 i1 r1
  obtain ⟨k2, a2, b2, rc2, nm2, p2, l2, d2, q2, m2, f2, rfl⟩ := xval2 i2 r2
  have h1 := all_len e1
  have h2 := all_len e2
  by_cases g1 : n1 < 1000
  · by_cases g2 : n2 < 1000
    · exact walk_small hG i1 r1 i2 r2 hx1 hx2 g1 g2 (by have := c1.2.2 g1; omega) (by have := c2.2.2 g2; omega)
    · exact walk_large2 hG i1 r1 i2 r2 hx1 hx2 g1 (by omega)
  · exact walk_large1 hG i1 r1 hx1 (by omega)
end Go.Proofs.YtmnpladggilgbaaGreatDoor.Vm
/- Expressions as arguments. -/
namespace Go.Proofs.YtmnpladggilgbaaGreatDoor.Vm
open Go Go.VM Go.Proofs Go.Scope
def lawS : List TypeId := [9, 5, 3, 4, 23, 42, 24, 27, 25]
theorem lawS_ok : ∀ t, inS lawS t = true → okTy Tryz.prog lawS t = true := by
  intro t ht
  have : t ∈ lawS := by
    obtain ⟨u, hu, e⟩ := List.any_eq_true.1 ht
    rw [← Nat.eq_of_beq_eq_true e]; exact hu
  exact List.all_eq_true.1 (show (lawS.all fun t => okTy Tryz.prog lawS t) = true by kernel_rfl) t this
theorem av_str {n t : Nat} {cs : List AV} (hu : Tryz.prog.underlying t = some .string) (h : AvOf Tryz.prog n t cs) : ∃ s, cs = [.str s] ∧ s.length ≤ maxLen := by
  cases n with
  | zero => cases h
  | succ n => simp only [AvOf, hu] at h; exact h
theorem av_u8 {n t : Nat} {cs : List AV} (hu : Tryz.prog.underlying t = some (.int .u8)) (h : AvOf Tryz.prog n t cs) : ∃ m : Nat, cs = [.int .u8 (m : Int)] := by
  cases n with
  | zero => cases h
  | succ n =>
    simp only [AvOf, hu] at h
    obtain ⟨m, rfl, h1, h2⟩ := h
    have h1 : (0 : Int) ≤ m := h1
    exact ⟨m.toNat, by rw [Int.toNat_of_nonneg h1]⟩
theorem av_int {n t : Nat} {cs : List AV} (hu : Tryz.prog.underlying t = some (.int .i64)) (h : AvOf Tryz.prog n t cs) : ∃ m : Int, cs = [.int .i64 m] := by
  cases n with
  | zero => cases h
  | succ n =>
    simp only [AvOf, hu] at h
    obtain ⟨m, rfl, _⟩ := h
    exact ⟨m, rfl⟩
theorem av_bool {n t : Nat} {cs : List AV} (hu : Tryz.prog.underlying t = some .bool) (h : AvOf Tryz.prog n t cs) : ∃ b : Bool, cs = [.bool b] := by
  cases n with
  | zero => cases h
  | succ n =>
    simp only [AvOf, hu] at h
    exact h
theorem span_of {n : Nat} {cs : List AV} (h : AvOf Tryz.prog n 23 cs) : ∃ sp : Sp, cs = [.int .i64 sp.1, .int .i64 sp.2] := by
  cases n with
  | zero => cases h
  | succ n =>
    simp only [AvOf, Tryz.underlying23] at h
    obtain ⟨a0, b0, rfl, h0, a1, b1, rfl, h1, rfl⟩ := h
    obtain ⟨x, rfl⟩ := av_int Tryz.underlying3 h0
    obtain ⟨y, rfl⟩ := av_int Tryz.underlying3 h1
    exact ⟨(x, y), rfl⟩
/-- A slice as an argument. -/
theorem av_sl {n t e : Nat} {cs : List AV} (hu : Tryz.prog.underlying t = some (.slice e)) (h : AvOf Tryz.prog (n + 1) t cs) (hst : isSt Tryz.prog e = true) {z : Nat} (hz : Tryz.prog.cellsOf e = z) :
    ∃ (x : AV) (L : List (List AV)), cs = [x] ∧ IsSl z x (L.map .agg) ∧ (∀ a ∈ L, AvOf Tryz.prog n e a) := by
  simp only [AvOf, hu] at h
  rcases h with rfl | rfl | ⟨L, rfl, hl, hL⟩
  · exact ⟨_, [], rfl, IsSl.nils, fun _ h => by cases h⟩
  · exact ⟨_, [], rfl, IsSl.emp, fun _ h => by cases h⟩
  · rw [hst, hz]
    exact ⟨_, L, rfl, IsSl.wide (by rw [List.length_map]; simpa [maxLen] using hl), hL⟩
theorem pats_in : ∀ {L : List (List AV)}, (∀ a ∈ L, ∃ p, IsP p (.agg a)) → ∃ ps, IsPs ps (L.map .agg)
  | [], _ => ⟨[], IsPs.nil⟩
  | a :: L, h => by
    obtain ⟨p, hp⟩ := h a List.mem_cons_self
    obtain ⟨ps, hps⟩ := pats_in (L := L) fun b hb => h b (List.mem_cons_of_mem _ hb)
    exact ⟨p :: ps, IsPs.cons hp hps⟩
theorem exprs_in : ∀ {L : List (List AV)}, (∀ a ∈ L, ∃ e, IsX e (.agg a)) → ∃ l, IsXs l (L.map .agg)
  | [], _ => ⟨[], IsXs.nil⟩
  | a :: L, h => by
    obtain ⟨p, hp⟩ := h a List.mem_cons_self
    obtain ⟨ps, hps⟩ := exprs_in (L := L) fun b hb => h b (List.mem_cons_of_mem _ hb)
    exact ⟨p :: ps, IsXs.cons hp hps⟩
theorem pat_of : ∀ (n : Nat) {cs : List AV}, AvOf Tryz.prog n 42 cs → ∃ p, IsP p (.agg cs) := by
  intro n
  induction n using Nat.strongRecOn with
  | _ n ih =>
    intro cs h
    cases n with
    | zero => cases h
    | succ n =>
      simp only [AvOf, Tryz.underlying42] at h
      obtain ⟨a0, b0, rfl, h0, a1, b1, rfl, h1, a2, b2, rfl, h2, a3, b3, rfl, h3, a4, b4, rfl, h4, rfl⟩ := h
      obtain ⟨k, rfl⟩ := av_u8 Tryz.underlying5 h0
      obtain ⟨lit, rfl⟩ := av_u8 Tryz.underlying5 h1
      obtain ⟨sp, rfl⟩ := span_of h2
      obtain ⟨nm, rfl, _⟩ := av_str Tryz.underlying9 h3
      cases n with
      | zero => cases h4
      | succ n =>
        obtain ⟨x, L, rfl, hx, hL⟩ := av_sl Tryz.underlying24 h4 (by kernel_rfl) (z := 6) (by kernel_rfl)
        obtain ⟨ps, hps⟩ := pats_in (L := L) fun a ha => ih n (by omega) (hL a ha)
        exact ⟨.mk k lit sp nm ps, by simp only [IsP]; exact ⟨x, _, rfl, hx, hps⟩⟩
theorem expr_of : ∀ (n : Nat) {cs : List AV}, AvOf Tryz.prog n 27 cs → ∃ e, IsX e (.agg cs) := by
  intro n
  induction n using Nat.strongRecOn with
  | _ n ih =>
    intro cs h
    cases n with
    | zero => cases h
    | succ n =>
      simp only [AvOf, Tryz.underlying27] at h
      obtain ⟨a0, b0, rfl, h0, a1, b1, rfl, h1, a2, b2, rfl, h2, a3, b3, rfl, h3, a4, b4, rfl, h4, a5, b5, rfl, h5, rfl⟩ := h
      obtain ⟨k, rfl⟩ := av_u8 Tryz.underlying5 h0
      obtain ⟨sp, rfl⟩ := span_of h1
      obtain ⟨rc, rfl⟩ := av_bool Tryz.underlying4 h2
      obtain ⟨nm, rfl, _⟩ := av_str Tryz.underlying9 h3
      cases n with
      | zero => cases h4
      | succ n =>
        obtain ⟨x, L, rfl, hx, hL⟩ := av_sl Tryz.underlying24 h4 (by kernel_rfl) (z := 6) (by kernel_rfl)
        obtain ⟨y, M, rfl, hy, hM⟩ := av_sl Tryz.underlying25 h5 (by kernel_rfl) (z := 7) (by kernel_rfl)
        obtain ⟨ps, hps⟩ := pats_in (L := L) fun a ha => pat_of n (hL a ha)
        obtain ⟨ls, hls⟩ := exprs_in (L := M) fun a ha => ih n (by omega) (hM a ha)
        exact ⟨.mk k sp rc nm ps ls, by simp only [IsX]; exact ⟨x, _, y, _, rfl, hx, hps, hy, hls⟩⟩
end Go.Proofs.YtmnpladggilgbaaGreatDoor.Vm
