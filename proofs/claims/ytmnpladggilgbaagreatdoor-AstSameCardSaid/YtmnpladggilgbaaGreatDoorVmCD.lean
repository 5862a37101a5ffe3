/-
  A part of the proof.
-/
import Derived.Test.YtmnpladggilgbaaGreatDoorVmCC
import Derived.Test.YtmnpladggilgbaaGreatDoorVmBJ
import Derived.StillTailTactics
import Derived.IntWalk
set_option maxRecDepth 1000000
set_option linter.unusedSimpArgs false
/- Law AstSame: what is called. -/
namespace Go.Proofs.YtmnpladggilgbaaGreatDoor.Vm
open Go Go.VM Go.Proofs Go.Scope Go.RowKit
/-- An expression that stands. -/
def StX (w0 : World) (e : Exr) (y : Value) : Prop := ∃ v, IsX e v ∧ VM.R (oldGh w0) v y
theorem run_boolL {f : FuncId} {vs : List AV} {b : Bool} {xs : Array Value} {w : World} (hG : TabsAny vE.G w) (hb : bares vs = true) (hr : RL (oldGh w) vs xs.toList) (h : (orc vE).bare f vs = some (.bool b)) (hc : ∀ args w, (callFunc f args).run Tryz.prog w = .ok (.enter f args) w) :
    Calls Tryz.prog f xs w fun e w' => e = .returned (.bool b) ∧ Below w.heap.size w w' := by
  obtain ⟨m, hm⟩ := (orc_ok vE).bare _ _ _ h
  refine (closedArgs vE_ok (hm m (Nat.le_refl _)) hc hG hb hr).mono ?_
  rintro e w' ⟨y, g, rfl, hy, hB⟩
  simp only [VM.R] at hy
  subst hy
  exact ⟨rfl, hB⟩
theorem stx_R {w0 w : World} {e : Exr} {y : Value} {v : AV} (H : Below w0.heap.size w0 w) (h : IsX e v) (hr : VM.R (oldGh w0) v y) : VM.R (oldGh w) v y := R_bare (old_below H) _ _ (isX_bare h).1 hr
theorem c_rs {w0 w : World} {e1 e2 : Exr} {x y : Value} (sp b : Bool) (hG : TabsAny vE.G w) (H : Below w0.heap.size w0 w) (h1 : StX w0 e1 x) (h2 : StX w0 e2 y) (hb : sameE sp e1 e2 = b) :
    Calls Tryz.prog 7 #[x, y, .bool sp] w fun e w' => e = .returned (.bool b) ∧ Below w.heap.size w w' := by
  obtain ⟨v1, i1, r1⟩ := h1
  obtain ⟨v2, i2, r2⟩ := h2
  subst hb
  exact run_boolL hG (by simp only [bares_cons, (isX_bare i1).1, (isX_bare i2).1]; rfl) (RL_cons (stx_R H i1 r1) (RL_cons (stx_R H i2 r2) (RL_cons (by simp only [VM.R]) RL_nil))) (rsameE_ok sp i1 i2) Tryz.call7
theorem c_gs {w0 w : World} {e1 e2 : Exr} {x y : Value} (b : Bool) (hG : TabsAny vE.G w) (H : Below w0.heap.size w0 w) (h1 : StX w0 e1 x) (h2 : StX w0 e2 y) (hb : sameE false e1 e2 = b) :
    Calls Tryz.prog 6 #[x, y] w fun e w' => e = .returned (.bool b) ∧ Below w.heap.size w w' := by
  obtain ⟨v1, i1, r1⟩ := h1
  obtain ⟨v2, i2, r2⟩ := h2
  subst hb
  exact run_boolL hG (by simp only [bares_cons, (isX_bare i1).1, (isX_bare i2).1]; rfl) (RL_cons (stx_R H i1 r1) (RL_cons (stx_R H i2 r2) RL_nil)) (gsameE_ok i1 i2) Tryz.call6
/-- The captured variables at a visit. -/
structure Js (w0 : World) (L : List Value) (kk : Int) (pl pk pn pr gb cap : Nat) (j : Nat) (w : World) : Prop where
  H : Below w0.heap.size w0 w
  cl : w.cell? ⟨pl, 0, none⟩ = some (.slice (some ⟨gb, 0, none⟩) L.length cap)
  ck : w.cell? ⟨pk, 0, none⟩ = some (.int .i64 kk)
  cn : w.cell? ⟨pn, 0, none⟩ = some (.int .i64 (j : Int))
  cr : w.cell? ⟨pr, 0, none⟩ = some (.bool true)
  fn : w.frozen? ⟨pn, 0, none⟩ = false
  fr : w.frozen? ⟨pr, 0, none⟩ = false
  row : ∀ i u, (cellsL L)[i]? = some u → w.cell? ⟨gb, i, none⟩ = some u
  g0 : gb < pn
  l0 : w0.heap.size ≤ pn
  l1 : pl < pn
  l2 : pk < pn
  l3 : pn < pr
theorem Js.below {w0 : World} {L : List Value} {kk : Int} {pl pk pn pr gb cap j : Nat} {w w' : World} (h : Js w0 L kk pl pk pn pr gb cap j w) (k : Below w.heap.size w w') : Js w0 L kk pl pk pn pr gb cap j w' := by
  have c : ∀ {b o v}, w.cell? ⟨b, o, none⟩ = some v → w'.cell? ⟨b, o, none⟩ = some v := fun {b o v} q => by rw [cell_congr (k.block b (cell_lt q))]; exact q
  have f : ∀ {b v}, w.cell? ⟨b, 0, none⟩ = some v → w.frozen? ⟨b, 0, none⟩ = false → w'.frozen? ⟨b, 0, none⟩ = false := fun {b v} q z => by rw [frz_congr (k.block b (cell_lt q))]; exact z
  exact ⟨h.H.trans (k.mono h.H.size), c h.cl, c h.ck, c h.cn, c h.cr, f h.cn h.fn, f h.cr h.fr, fun i u q => c (h.row i u q), h.g0, h.l0, h.l1, h.l2, h.l3⟩
theorem Js.setR {w0 : World} {L : List Value} {kk : Int} {pl pk pn pr gb cap j : Nat} {w : World} (h : Js w0 L kk pl pk pn pr gb cap j w) : Js w0 L kk pl pk pn pr gb cap j (w.setCell ⟨pr, 0, none⟩ (.bool true)) ∧ Chg pn (pr + 1) w (w.setCell ⟨pr, 0, none⟩ (.bool true)) := by
  have k0 := fun k j => cell_set w (.bool true) h.cr k j
  have f0 := fun k j => frz_set w (.bool true) h.cr k j
  have hc : Chg pn (pr + 1) w (w.setCell ⟨pr, 0, none⟩ (.bool true)) := Chg.set w (.bool true) h.cr (Nat.le_of_lt h.l3) (Nat.lt_succ_self _)
  have ne : ∀ {b o : Nat} {v : Value}, b < pr → w.cell? ⟨b, o, none⟩ = some v → (w.setCell ⟨pr, 0, none⟩ (.bool true)).cell? ⟨b, o, none⟩ = some v := fun {b o v} q e => by rw [k0, if_neg (fun x => by omega)]; exact e
  have l1 := h.l1; have l2 := h.l2; have l3 := h.l3; have g0 := h.g0
  exact ⟨⟨h.H.trans (hc.below h.l0 h.H.size), ne (by omega) h.cl, ne (by omega) h.ck, ne (by omega) h.cn, by rw [k0, if_pos ⟨rfl, rfl⟩], by rw [f0]; exact h.fn, by rw [f0]; exact h.fr, fun i u q => ne (by omega) (h.row i u q), h.g0, h.l0, h.l1, h.l2, h.l3⟩, hc⟩
theorem Js.setN {w0 : World} {L : List Value} {kk : Int} {pl pk pn pr gb cap j : Nat} {w : World} (h : Js w0 L kk pl pk pn pr gb cap j w) : Js w0 L kk pl pk pn pr gb cap (j + 1) (w.setCell ⟨pn, 0, none⟩ (.int .i64 ((j : Int) + 1))) ∧ Chg pn (pr + 1) w (w.setCell ⟨pn, 0, none⟩ (.int .i64 ((j : Int) + 1))) := by
  have k0 := fun k i => cell_set w (.int .i64 ((j : Int) + 1)) h.cn k i
  have f0 := fun k i => frz_set w (.int .i64 ((j : Int) + 1)) h.cn k i
  have l1 := h.l1; have l2 := h.l2; have l3 := h.l3; have g0 := h.g0
  have hc : Chg pn (pr + 1) w (w.setCell ⟨pn, 0, none⟩ (.int .i64 ((j : Int) + 1))) := Chg.set w (.int .i64 ((j : Int) + 1)) h.cn (Nat.le_refl _) (by omega)
  have ne : ∀ {b o : Nat} {v : Value}, b ≠ pn → w.cell? ⟨b, o, none⟩ = some v → (w.setCell ⟨pn, 0, none⟩ (.int .i64 ((j : Int) + 1))).cell? ⟨b, o, none⟩ = some v := fun {b o v} q e => by rw [k0, if_neg (fun x => q x.1)]; exact e
  exact ⟨⟨h.H.trans (hc.below h.l0 h.H.size), ne (by omega) h.cl, ne (by omega) h.ck, by rw [k0, if_pos ⟨rfl, rfl⟩]; rfl, ne (by omega) h.cr, by rw [f0]; exact h.fn, by rw [f0]; exact h.fr, fun i u q => ne (by omega) (h.row i u q), h.g0, h.l0, h.l1, h.l2, h.l3⟩, hc⟩
/-- Cells of an element. -/
theorem cellsL_at : ∀ {L : List Value}, (∀ y ∈ L, ∃ k a b rc nm u z, y = eV k a b rc nm u z) → ∀ {j : Nat} {k a b : Int} {rc : Bool} {nm : ByteArray} {u z : Value}, L[j]? = some (eV k a b rc nm u z) →
    (cellsL L)[j * 7]? = some (.int .u8 k) ∧ (cellsL L)[j * 7 + 1]? = some (.int .i64 a) ∧ (cellsL L)[j * 7 + 2]? = some (.int .i64 b) ∧ (cellsL L)[j * 7 + 3]? = some (.bool rc) ∧ (cellsL L)[j * 7 + 4]? = some (.string nm) ∧ (cellsL L)[j * 7 + 5]? = some u ∧ (cellsL L)[j * 7 + 6]? = some z
  | [], _, j, _, _, _, _, _, _, _, h => by simp at h
  | y :: L, hX, 0, k, a, b, rc, nm, u, z, h => by
    simp at h; subst h
    exact ⟨rfl, rfl, rfl, rfl, rfl, rfl, rfl⟩
  | y :: L, hX, j + 1, k, a, b, rc, nm, u, z, h => by
    obtain ⟨k', a', b', rc', nm', u', z', rfl⟩ := hX y (by simp)
    have ih := cellsL_at (fun y hy => hX y (by simp [hy])) (show L[j]? = _ by simpa using h)
    have e : cellsL (eV k' a' b' rc' nm' u' z' :: L) = [.int .u8 k', .int .i64 a', .int .i64 b', .bool rc', .string nm', u', z'] ++ cellsL L := rfl
    have g : ∀ i, (cellsL (eV k' a' b' rc' nm' u' z' :: L))[(j + 1) * 7 + i]? = (cellsL L)[j * 7 + i]? := fun i => by
      rw [e, List.getElem?_append_right (by simp; omega)]
      congr 1
      simp; omega
    exact ⟨(g 0).trans ih.1, (g 1).trans ih.2.1, (g 2).trans ih.2.2.1, (g 3).trans ih.2.2.2.1, (g 4).trans ih.2.2.2.2.1, (g 5).trans ih.2.2.2.2.2.1, (g 6).trans ih.2.2.2.2.2.2⟩
theorem allX_val {w0 : World} {L : List Value} (h : AllX (oldGh w0) L) : ∀ y ∈ L, ∃ k a b rc nm u z, y = eV k a b rc nm u z := fun y hy => by
  obtain ⟨e, v, h1, h2⟩ := h y hy
  obtain ⟨k, a, b, rc, nm, ya, yb, _, _, _, e, _⟩ := xval h1 h2
  exact ⟨k, a, b, rc, nm, ya, yb, e⟩
set_option maxHeartbeats 4000000 in
theorem c_clo {w0 : World} {L : List Value} {kk : Int} {pl pk pn pr gb cap j : Nat} {w : World} {k a b : Int} {rc : Bool} {nm : ByteArray} {u z : Value} {r : Bool} (hG : TabsAny vE.G w0) (hX : AllX (oldGh w0) L) (hj : L[j]? = some (eV k a b rc nm u z)) (hL : L.length ≤ 100000) (J : Js w0 L kk pl pk pn pr gb cap j w) (hr : decide ((j : Int) + 1 < kk) = r) :
    Calls Tryz.prog 10 #[eV k a b rc nm u z, .pointer (some ⟨pr, 0, none⟩), .pointer (some ⟨pn, 0, none⟩), .pointer (some ⟨pl, 0, none⟩), .pointer (some ⟨pk, 0, none⟩)] w fun e w' => e = .returned (.bool r) ∧ Js w0 L kk pl pk pn pr gb cap (j + 1) w' ∧ Chg pn (pr + 1) w w' := by
  have hlt : j < L.length := by
    rcases Nat.lt_or_ge j L.length with q | q
    · exact q
    · rw [List.getElem?_eq_none q] at hj; cases hj
  obtain ⟨e0, v0, x1, x2⟩ := hX _ (List.mem_of_getElem? hj)
  have hS : StX w0 e0 (eV k a b rc nm u z) := ⟨v0, x1, x2⟩
  obtain ⟨d0, d1, d2, d3, d4, d5, d6⟩ := cellsL_at (allX_val hX) hj
  have al : Below w.heap.size w (w.alloc (.cells #[.int .u8 k, .int .i64 a, .int .i64 b, .bool rc, .string nm, u, z] 27)) := by go_grown
  have J1 := J.below (al.trans (Below.refl _ _).drew)
  have bx : (w.alloc (.cells #[.int .u8 k, .int .i64 a, .int .i64 b, .bool rc, .string nm, u, z] 27)).drew.heap[w.heap.size]? = some (.cells #[.int .u8 k, .int .i64 a, .int .i64 b, .bool rc, .string nm, u, z] 27) := World.heap_alloc_new
  have JJ : Hid (Js w0 L kk pl pk pn pr gb cap j w) := J
  have HD : Hid (decide ((j : Int) + 1 < kk) = r) := hr
  have HX : Hid (StX w0 e0 (eV k a b rc nm u z)) := hS
  have HR : Hid (sameE true e0 e0 = true) := same_refl true e0
  obtain ⟨_, cl, ck, cn, cr, fn, fr, _, _, _, _, _, _⟩ := id J1
  have r0 := J1.row _ _ d0
  have r1 := J1.row _ _ d1
  have r2 := J1.row _ _ d2
  have r3 := J1.row _ _ d3
  have r4 := J1.row _ _ d4
  have r5 := J1.row _ _ d5
  have r6 := J1.row _ _ d6
  have b0 : (w.alloc (.cells #[.int .u8 k, .int .i64 a, .int .i64 b, .bool rc, .string nm, u, z] 27)).drew.cell? ⟨w.heap.size, 0, none⟩ = some (.int .u8 k) := (cell_of bx).trans rfl
  have b1 : (w.alloc (.cells #[.int .u8 k, .int .i64 a, .int .i64 b, .bool rc, .string nm, u, z] 27)).drew.cell? ⟨w.heap.size, 1, none⟩ = some (.int .i64 a) := (cell_of bx).trans rfl
  have b2 : (w.alloc (.cells #[.int .u8 k, .int .i64 a, .int .i64 b, .bool rc, .string nm, u, z] 27)).drew.cell? ⟨w.heap.size, 2, none⟩ = some (.int .i64 b) := (cell_of bx).trans rfl
  have b3 : (w.alloc (.cells #[.int .u8 k, .int .i64 a, .int .i64 b, .bool rc, .string nm, u, z] 27)).drew.cell? ⟨w.heap.size, 3, none⟩ = some (.bool rc) := (cell_of bx).trans rfl
  have b4 : (w.alloc (.cells #[.int .u8 k, .int .i64 a, .int .i64 b, .bool rc, .string nm, u, z] 27)).drew.cell? ⟨w.heap.size, 4, none⟩ = some (.string nm) := (cell_of bx).trans rfl
  have b5 : (w.alloc (.cells #[.int .u8 k, .int .i64 a, .int .i64 b, .bool rc, .string nm, u, z] 27)).drew.cell? ⟨w.heap.size, 5, none⟩ = some (u) := (cell_of bx).trans rfl
  have b6 : (w.alloc (.cells #[.int .u8 k, .int .i64 a, .int .i64 b, .bool rc, .string nm, u, z] 27)).drew.cell? ⟨w.heap.size, 6, none⟩ = some (z) := (cell_of bx).trans rfl
  clear d0 d1 d2 d3 d4 d5 d6 hj x1 x2 hr hS bx
  have hwr : IntKind.i64.wrap ((L.length : Int) - 1) = (L.length : Int) - 1 := IntWalk.i64_in _ (by omega)
  have hmin : min (j : Int) ((L.length : Int) - 1) = (j : Int) := by omega
  go_enter Tryz.func10, Tryz.ntmps10
  go_wp2_with fail
  refine wp_region_still_tail 17 (by kernel_rfl) (by kernel_rfl) ?_
  simp only [List.take_succ_cons, List.take_zero, List.drop_succ_cons, List.drop_zero]
  have B1 : Below w.heap.size w (w.alloc (.cells #[.int .u8 k, .int .i64 a, .int .i64 b, .bool rc, .string nm, u, z] 27)).drew := al.trans (Below.refl _ _).drew
  clear al
  generalize w.alloc (.cells #[.int .u8 k, .int .i64 a, .int .i64 b, .bool rc, .string nm, u, z] 27) = W0 at *
  change wpStill _ _ W0.drew (fun a' => wpList _ _ _ _ a' W0.drew) _ _
  generalize W0.drew = W1 at *
  repeat still_step
  try refine wpStill_nil ?_
  clear r0 r1 r2 r3 r4 r5 r6 b0 b1 b2 b3 b4 b5 b6 cl ck cn cr fn fr hwr hmin
  have G1 := (hG.below JJ.out.H).below B1
  go_wp2_with fail
  refine (c_rs true true G1 J1.H HX.out HX.out HR.out).mono ?_
  rintro e W2 ⟨rfl, B2⟩
  have J2 := J1.below B2
  have hjb : (j : Int) ≤ 100000 := by omega
  obtain ⟨J3, C3⟩ := J2.setR
  obtain ⟨J4, C4⟩ := J3.setN
  have CC : Hid (Js w0 L kk pl pk pn pr gb cap (j + 1) ((W2.setCell ⟨pr, 0, none⟩ (.bool true)).setCell ⟨pn, 0, none⟩ (.int .i64 ((j : Int) + 1))) ∧ Chg pn (pr + 1) w ((W2.setCell ⟨pr, 0, none⟩ (.bool true)).setCell ⟨pn, 0, none⟩ (.int .i64 ((j : Int) + 1)))) := Lib.hid ⟨J4, ((Chg.of_below B1).trans (Chg.of_below B2)).trans (C3.trans C4)⟩
  obtain ⟨_, _, _, _, cr2, _, fr2, _, _, _, _, _, _⟩ := J2
  obtain ⟨_, _, _, cn3, _, fn3, _, _, _, _, _, _, _⟩ := J3
  obtain ⟨_, _, ck4, cn4, _, _, _, _, _, _, _, _, _⟩ := J4
  have cn4 : ((W2.setCell ⟨pr, 0, none⟩ (.bool true)).setCell ⟨pn, 0, none⟩ (.int .i64 ((j : Int) + 1))).cell? ⟨pn, 0, none⟩ = some (.int .i64 ((j : Int) + 1)) := cn4
  clear C3 C4 B1 B2 G1 J1
  go_wp2_with fail
  go_ret
  exact ⟨by rw [← HD.out]; rfl, CC.out⟩
end Go.Proofs.YtmnpladggilgbaaGreatDoor.Vm
/- ast.each, ast.Each, walked. -/
namespace Go.Proofs.YtmnpladggilgbaaGreatDoor.Vm
open Go Go.VM Go.Proofs Go.Scope Go.RowKit
abbrev cloV (pr pn pl pk : Nat) : Value := .func (.func 10) #[] #[.pointer (some ⟨pr, 0, none⟩), .pointer (some ⟨pn, 0, none⟩), .pointer (some ⟨pl, 0, none⟩), .pointer (some ⟨pk, 0, none⟩)]
/-- What a visit leaves. -/
def EaQ (w0 : World) (L : List Value) (kk : Int) (pl pk pn pr gb cap m : Nat) (r : Bool) (w : World) (e : Ending) (w' : World) : Prop :=
  e = .returned (.bool r) ∧ Js w0 L kk pl pk pn pr gb cap m w' ∧ Chg pn (pr + 1) w w'
structure EaR (w0 : World) (L : List Value) (kk : Int) (pl pk pn pr gb cap K : Nat) (w : World) (ls : List Exr) (yb : Value) (rest : List Value) (tot : Nat) (i jj : Nat) (wr : World) : Prop where
  le : i ≤ ls.length
  dr : L.drop jj = pres (oldGh w0) (ls.drop i) yb i ++ rest
  nt : jj + (allEs (ls.drop i)).length = tot
  lt : jj < K
  J : Js w0 L kk pl pk pn pr gb cap jj wr
  C : Chg pn (pr + 1) w wr
theorem min_far {a b c : Nat} (h : b ≤ a) (k : a ≤ c) : min a b = min c b := by omega
set_option maxHeartbeats 4000000 in
theorem c_each {w0 : World} {L : List Value} {kk : Int} {pl pk pn pr gb cap K : Nat} (hG : TabsAny vE.G w0) (hX : AllX (oldGh w0) L) (hL : L.length ≤ 100000) (hK : ∀ i : Nat, ((i : Int) + 1 < kk ↔ i + 1 < K)) : ∀ (N : Nat) (e : Exr), SizeOf.sizeOf e < N → ∀ (v : AV) (k a b : Int) (rc : Bool) (nm : ByteArray) (ya yb : Value) (j : Nat) (rest : List Value) (w : World) (r : Bool), IsX e v → VM.R (oldGh w0) v (eV k a b rc nm ya yb) → L.drop j = pre (oldGh w0) e (eV k a b rc nm ya yb) ++ rest → j < K → Js w0 L kk pl pk pn pr gb cap j w → decide (j + (Scope.allE e).length < K) = r →
    Calls Tryz.prog 17 #[eV k a b rc nm ya yb, cloV pr pn pl pk] w (EaQ w0 L kk pl pk pn pr gb cap (min (j + (Scope.allE e).length) K) r w) := by
  intro N
  induction N with
  | zero => intro e h; omega
  | succ N ih =>
    intro e he v k a b rc nm ya yb j rest w r hv hy hd hjK J hr
    obtain ⟨k0, a0, b0, rc0, nm0, ya0, yb0, ls, x, fs, ey, ⟨k', sp, rc', nm', ps, rfl⟩, hx, hs, hrr, o5, o6⟩ := xval hv hy
    cases ey
    simp only [Exr.mk.sizeOf_spec] at he
    have IH : Hid (∀ t ∈ ls, ∀ (v : AV) (k a b : Int) (rc : Bool) (nm : ByteArray) (ya yb : Value) (j : Nat) (rest : List Value) (w : World) (r : Bool), IsX t v → VM.R (oldGh w0) v (eV k a b rc nm ya yb) → L.drop j = pre (oldGh w0) t (eV k a b rc nm ya yb) ++ rest → j < K → Js w0 L kk pl pk pn pr gb cap j w → decide (j + (Scope.allE t).length < K) = r →
      Calls Tryz.prog 17 #[eV k a b rc nm ya yb, cloV pr pn pl pk] w (EaQ w0 L kk pl pk pn pr gb cap (min (j + (Scope.allE t).length) K) r w)) := fun t ht => ih t (by have := List.sizeOf_lt_of_mem ht; omega)
    clear ih
    obtain ⟨al, cap2, rfl, hcap, _⟩ := slv hx hrr
    have hlen : fs.length = ls.length := hs.len
    rw [hlen] at hrr hcap hy hd ⊢
    have HK : Hid (∀ {i : Nat} (hi : i < ls.length), ∃ (blk o cap' : Nat) (v : AV) (k a b : Int) (rc : Bool) (nm : ByteArray) (ya' yb' : Value), Value.slice al ls.length cap2 = .slice (some ⟨blk, o, none⟩) ls.length cap' ∧ IsX ls[i] v ∧ kidV (oldGh w0) (Value.slice al ls.length cap2) i = eV k a b rc nm ya' yb' ∧ VM.R (oldGh w0) v (eV k a b rc nm ya' yb') ∧
      (oldGh w0).F blk (o + i * 7) = some (.int .u8 k) ∧ (oldGh w0).F blk (o + i * 7 + 1) = some (.int .i64 a) ∧ (oldGh w0).F blk (o + i * 7 + 2) = some (.int .i64 b) ∧ (oldGh w0).F blk (o + i * 7 + 3) = some (.bool rc) ∧ (oldGh w0).F blk (o + i * 7 + 4) = some (.string nm) ∧ (oldGh w0).F blk (o + i * 7 + 5) = some ya' ∧ (oldGh w0).F blk (o + i * 7 + 6) = some yb' ∧ (∃ p m c, ya' = .slice p m c) ∧ (∃ p m c, yb' = .slice p m c)) := fun hi => ekid hx hs hrr hi
    have hmax : ls.length ≤ 9223372036854775807 := by rw [← hlen]; exact slen_lt hx
    have hlenE : (Scope.allE (.mk k' sp rc' nm' ps ls)).length = 1 + (allEs ls).length := by simp only [Scope.allE, List.length_cons]; omega
    have hd' : L.drop j = eV k a b rc nm ya (.slice al ls.length cap2) :: (pres (oldGh w0) ls (.slice al ls.length cap2) 0 ++ rest) := hd
    obtain ⟨hj, hd1, hjl⟩ := drop_cons hd'
    have al0 : Below w.heap.size w (w.alloc (.cells #[.int .u8 k, .int .i64 a, .int .i64 b, .bool rc, .string nm, ya, .slice al ls.length cap2] 27)) := by go_grown
    have J0 := J.below al0
    have bx : (w.alloc (.cells #[.int .u8 k, .int .i64 a, .int .i64 b, .bool rc, .string nm, ya, .slice al ls.length cap2] 27)).cell? ⟨w.heap.size, 6, none⟩ = some (.slice al ls.length cap2) := by rw [World.cell?_alloc_at _ _ _ _ rfl]; rfl
    have hpr : pr < w.heap.size := cell_lt J.cr
    clear hx hs hrr hv hy hd hd' hlen hcap
    have HC : Hid (∀ (r1 : Bool), decide ((j : Int) + 1 < kk) = r1 → Calls Tryz.prog 10 #[eV k a b rc nm ya (.slice al ls.length cap2), .pointer (some ⟨pr, 0, none⟩), .pointer (some ⟨pn, 0, none⟩), .pointer (some ⟨pl, 0, none⟩), .pointer (some ⟨pk, 0, none⟩)] (w.alloc (.cells #[.int .u8 k, .int .i64 a, .int .i64 b, .bool rc, .string nm, ya, .slice al ls.length cap2] 27)) fun e w' => e = .returned (.bool r1) ∧ Js w0 L kk pl pk pn pr gb cap (j + 1) w' ∧ Chg pn (pr + 1) (w.alloc (.cells #[.int .u8 k, .int .i64 a, .int .i64 b, .bool rc, .string nm, ya, .slice al ls.length cap2] 27)) w') := fun r1 h1 => c_clo hG hX hj hL J0 h1
    have C0 : Chg pn (pr + 1) w (w.alloc (.cells #[.int .u8 k, .int .i64 a, .int .i64 b, .bool rc, .string nm, ya, .slice al ls.length cap2] 27)) := Chg.of_below al0
    have HX : Hid (AllX (oldGh w0) L) := hX
    have HK2 : Hid (∀ i : Nat, ((i : Int) + 1 < kk ↔ i + 1 < K)) := hK
    have HR : Hid (decide (j + (Scope.allE (.mk k' sp rc' nm' ps ls)).length < K) = r) := hr
    have HE := Lib.hid hlenE
    have HD1 := Lib.hid hd1
    have hsz : w.heap.size < (w.alloc (.cells #[.int .u8 k, .int .i64 a, .int .i64 b, .bool rc, .string nm, ya, .slice al ls.length cap2] 27)).heap.size := by simp
    by_cases h1 : j + 1 < K
    · have hk1 : decide ((j : Int) + 1 < kk) = true := decide_eq_true ((hK j).2 h1)
      have HC1 := Lib.hid (HC.out true hk1)
      clear hk1 HC hX hK hr J hj hlenE hd1 al0 J0
      go_enter Tryz.func17, Tryz.ntmps17
      go_wp2_with fail
      refine HC1.out.mono ?_
      rintro e w1 ⟨rfl, J1, C1⟩
      have R1 : EaR w0 L kk pl pk pn pr gb cap K w ls (.slice al ls.length cap2) rest (j + (Scope.allE (.mk k' sp rc' nm' ps ls)).length) 0 (j + 1) w1 :=
        ⟨Nat.zero_le _, HD1.out, by rw [HE.out, List.drop_zero]; omega, h1, J1, C0.trans C1⟩
      have bx1 : w1.cell? ⟨w.heap.size, 6, none⟩ = some (.slice al ls.length cap2) := by
        rw [cell_congr (C1.heap _ hsz (.inr hpr))]; exact bx
      clear J1 C1 C0 bx HC1
      go_wp2_with fail
      go_loopw [14] (fun i wr => ∃ n jj : Nat, i = .int .i64 n ∧ EaR w0 L kk pl pk pn pr gb cap K w ls (.slice al ls.length cap2) rest (j + (Scope.allE (.mk k' sp rc' nm' ps ls)).length) n jj wr) (fun i _ => ls.length - (intOf i).toNat)
      case atStart => exact ⟨0, j + 1, rfl, R1⟩
      case round =>
        obtain ⟨i, jj, rfl, hR⟩ := hrel
        clear R1 bx1
        by_cases hlt : i < ls.length
        · obtain ⟨blk, o, cap', v1, k1, a1, b1, rc1, nm1, ya1, yb1, e1, hX1, hkv, hRv, f0, f1, f2, f3, f4, f5, f6, ⟨p5, m5, q5, rfl⟩, ⟨p6, m6, q6, rfl⟩⟩ := HK.out hlt
          have lw := (old_below hR.J.H).F
          have c0 : wr.cell? ⟨blk, o + i * 7, none⟩ = _ := lw _ _ _ f0
          have c1 : wr.cell? ⟨blk, o + i * 7 + 1, none⟩ = _ := lw _ _ _ f1
          have c2 : wr.cell? ⟨blk, o + i * 7 + 2, none⟩ = _ := lw _ _ _ f2
          have c3 : wr.cell? ⟨blk, o + i * 7 + 3, none⟩ = _ := lw _ _ _ f3
          have c4 : wr.cell? ⟨blk, o + i * 7 + 4, none⟩ = _ := lw _ _ _ f4
          have c5 : wr.cell? ⟨blk, o + i * 7 + 5, none⟩ = _ := lw _ _ _ f5
          have c6 : wr.cell? ⟨blk, o + i * 7 + 6, none⟩ = _ := lw _ _ _ f6
          have HD : Hid (ls.drop i = ls[i] :: ls.drop (i + 1)) := List.drop_eq_getElem_cons hlt
          have HS : Hid (L.drop jj = pre (oldGh w0) ls[i] (eV k1 a1 b1 rc1 nm1 (.slice p5 m5 q5) (.slice p6 m6 q6)) ++ (pres (oldGh w0) (ls.drop (i + 1)) (.slice al ls.length cap2) (i + 1) ++ rest)) := Lib.hid (by
            rw [hR.dr, HD.out, pres, hkv, List.append_assoc])
          have HN : Hid (jj + ((Scope.allE ls[i]).length + (allEs (ls.drop (i + 1))).length) = j + (Scope.allE (.mk k' sp rc' nm' ps ls)).length) := Lib.hid (by
            rw [← hR.nt, HD.out, allEs, List.length_append])
          have HL : Hid (L.drop (jj + (Scope.allE ls[i]).length) = pres (oldGh w0) (ls.drop (i + 1)) (.slice al ls.length cap2) (i + 1) ++ rest) := Lib.hid (by
            rw [← List.drop_drop, HS.out, ← pre_all (oldGh w0) ls[i] (eV k1 a1 b1 rc1 nm1 (.slice p5 m5 q5) (.slice p6 m6 q6)), List.drop_left])
          have HI := fun (r1 : Bool) (wk : World) (hJ : Js w0 L kk pl pk pn pr gb cap jj wk) (hr1 : decide (jj + (Scope.allE ls[i]).length < K) = r1) => IH.out ls[i] (List.getElem_mem hlt) v1 k1 a1 b1 rc1 nm1 _ _ jj _ wk r1 hX1 hRv HS.out hR.lt hJ hr1
          have HI := Lib.hid HI
          have HRR := Lib.hid hR
          clear hkv f0 f1 f2 f3 f4 f5 f6 lw hRv hR hX1
          cases e1
          by_cases h2 : jj + (Scope.allE ls[i]).length < K
          · go_wp2_with fail
            refine Calls.mono (HI.out true _ (HRR.out.J.below ?btrue) (decide_eq_true h2)) ?_
            case btrue => go_grown
            rintro e w4 ⟨rfl, J4, C4⟩
            have hB4 : Chg pn (pr + 1) wr w4 := (Chg.of_below (by go_grown)).trans C4
            rw [Nat.min_eq_left (Nat.le_of_lt h2)] at J4
            have R4 : EaR w0 L kk pl pk pn pr gb cap K w ls (.slice (some ⟨blk, o, none⟩) ls.length cap2) rest (j + (Scope.allE (.mk k' sp rc' nm' ps ls)).length) (i + 1) (jj + (Scope.allE ls[i]).length) w4 :=
              ⟨hlt, HL.out, by rw [← HN.out]; omega, h2, J4, HRR.out.C.trans hB4⟩
            clear C4 hB4 J4
            go_wp2_with fail
            go_roundw
            case rel => exact ⟨i + 1, _, by go_num, R4⟩
            case measure => simp [intOf]; omega
          · go_wp2_with fail
            refine Calls.mono (HI.out false _ (HRR.out.J.below ?bfalse) (decide_eq_false h2)) ?_
            case bfalse => go_grown
            rintro e w4 ⟨rfl, J4, C4⟩
            have hB4 : Chg pn (pr + 1) wr w4 := (Chg.of_below (by go_grown)).trans C4
            have hm : min (jj + (Scope.allE ls[i]).length) K = min (j + (Scope.allE (.mk k' sp rc' nm' ps ls)).length) K := min_far (by omega) (by have := HN.out; omega)
            rw [hm] at J4
            have hF : Hid (r = false) := Lib.hid (by rw [← HR.out]; exact decide_eq_false (by have := HN.out; omega))
            have HJ := Lib.hid (And.intro J4 (HRR.out.C.trans hB4))
            clear C4 hB4 J4 hm
            go_wp2_with fail
            go_ret
            exact ⟨congrArg (fun b => Ending.returned (.bool b)) hF.out.symm, HJ.out⟩
        · have hj : ls.drop i = [] := List.drop_eq_nil_iff.2 (by omega)
          have w3 := hR.nt
          rw [hj] at w3
          simp only [allEs, List.length_nil, Nat.add_zero] at w3
          have hF : Hid (r = true) := Lib.hid (by rw [← HR.out]; exact decide_eq_true (by have := hR.lt; omega))
          have hm : jj = min (j + (Scope.allE (.mk k' sp rc' nm' ps ls)).length) K := by have := hR.lt; omega
          have hJ := hR.J
          rw [hm] at hJ
          have HJ := Lib.hid (And.intro hJ hR.C)
          clear hR hj w3 hJ hm
          go_wp2_with fail
          go_ret
          exact ⟨congrArg (fun b => Ending.returned (.bool b)) hF.out.symm, HJ.out⟩
    · have hk1 : decide ((j : Int) + 1 < kk) = false := decide_eq_false (fun q => h1 ((hK j).1 q))
      have HC1 := Lib.hid (HC.out false hk1)
      clear hk1 HC hX hK hr J hj hlenE hd1 al0 J0
      go_enter Tryz.func17, Tryz.ntmps17
      go_wp2_with fail
      refine HC1.out.mono ?_
      rintro e w1 ⟨rfl, J1, C1⟩
      have hm : j + 1 = min (j + (Scope.allE (.mk k' sp rc' nm' ps ls)).length) K := by have := HE.out; omega
      rw [hm] at J1
      have hF : Hid (r = false) := Lib.hid (by rw [← HR.out]; exact decide_eq_false (by have := HE.out; omega))
      have HJ := Lib.hid (And.intro J1 (C0.trans C1))
      clear J1 C1 C0 hm
      go_wp2_with fail
      go_ret
      exact ⟨congrArg (fun b => Ending.returned (.bool b)) hF.out.symm, HJ.out⟩
end Go.Proofs.YtmnpladggilgbaaGreatDoor.Vm
/- ast.Each, walked. -/
namespace Go.Proofs.YtmnpladggilgbaaGreatDoor.Vm
open Go Go.VM Go.Proofs Go.Scope Go.RowKit
theorem run_nil_nil (w : World) : Sem.run Tryz.prog (binOp BinOp.eql 38 Value.nilFunc Value.nilFunc) w = .ok (.bool true) w := by kernel_rfl
theorem run_clo_nil (pr pn pl pk : Nat) (w : World) : Sem.run Tryz.prog (binOp BinOp.eql 38 (cloV pr pn pl pk) Value.nilFunc) w = .ok (.bool false) w := by kernel_rfl
set_option maxHeartbeats 1000000 in
theorem c_ecnil (s : Value) (w : World) : Calls Tryz.prog 9 #[s, .nilFunc] w fun e w' => e = .returned (.bool true) ∧ w = w' := by
  have hq := run_nil_nil
  go_enter Tryz.func9, Tryz.ntmps9
  go_wp2
  go_ret
  exact ⟨rfl, rfl⟩
abbrev bindCells (k a b : Int) (rc : Bool) (nm : ByteArray) (x y : Value) : List Value := [.int .i64 0, .int .i64 0, .bool false, .slice none 0 0, .int .u8 k, .int .i64 a, .int .i64 b, .bool rc, .string nm, x, y]
structure EcR (w0 : World) (L : List Value) (kk : Int) (pl pk pn pr gb cap K : Nat) (w : World) (n1 n2 : Nat) (i jj : Nat) (wr : World) : Prop where
  at' : (i = 0 ∧ jj = 0) ∨ (i = 1 ∧ jj = n1) ∨ (i = 2 ∧ jj = n1 + n2)
  lt : jj < K
  J : Js w0 L kk pl pk pn pr gb cap jj wr
  C : Chg pn (pr + 1) w wr
set_option maxHeartbeats 4000000 in
theorem c_Each {w0 : World} {L : List Value} {kk : Int} {pl pk pn pr gb cap K bb bc : Nat} (hG : TabsAny vE.G w0) (hX : AllX (oldGh w0) L) (hL : L.length ≤ 100000) (hK : ∀ i : Nat, ((i : Int) + 1 < kk ↔ i + 1 < K)) (h0 : 0 < K)
    {e1 e2 : Exr} {k1 a1 b1 : Int} {rc1 : Bool} {nm1 : ByteArray} {p1 : Option Addr} {l1 c1 : Nat} {q1 : Option Addr} {m1 d1 : Nat} {k2 a2 b2 : Int} {rc2 : Bool} {nm2 : ByteArray} {p2 : Option Addr} {l2 c2 : Nat} {q2 : Option Addr} {m2 d2 : Nat}
    (s1 : StX w0 e1 (eV k1 a1 b1 rc1 nm1 (.slice p1 l1 c1) (.slice q1 m1 d1))) (s2 : StX w0 e2 (eV k2 a2 b2 rc2 nm2 (.slice p2 l2 c2) (.slice q2 m2 d2)))
    (hLL : L = pre (oldGh w0) e1 (eV k1 a1 b1 rc1 nm1 (.slice p1 l1 c1) (.slice q1 m1 d1)) ++ pre (oldGh w0) e2 (eV k2 a2 b2 rc2 nm2 (.slice p2 l2 c2) (.slice q2 m2 d2)))
    {w : World} (J : Js w0 L kk pl pk pn pr gb cap 0 w) (hbb : pr < bb) (hc : ∀ t v, (bindCells k1 a1 b1 rc1 nm1 (.slice p1 l1 c1) (.slice q1 m1 d1) ++ bindCells k2 a2 b2 rc2 nm2 (.slice p2 l2 c2) (.slice q2 m2 d2))[t]? = some v → w.cell? ⟨bb, t, none⟩ = some v) {r : Bool} (hr : decide (L.length < K) = r) :
    Calls Tryz.prog 9 #[.slice (some ⟨bb, 0, none⟩) 2 bc, cloV pr pn pl pk] w (EaQ w0 L kk pl pk pn pr gb cap (min L.length K) r w) := by
  have hlen : L.length = (Scope.allE e1).length + (Scope.allE e2).length := by rw [hLL, List.length_append, pre_all, pre_all]
  have HC : Hid (∀ wr, Chg pn (pr + 1) w wr → ∀ t v, (bindCells k1 a1 b1 rc1 nm1 (.slice p1 l1 c1) (.slice q1 m1 d1) ++ bindCells k2 a2 b2 rc2 nm2 (.slice p2 l2 c2) (.slice q2 m2 d2))[t]? = some v → wr.cell? ⟨bb, t, none⟩ = some v) := fun wr C t v ht => by
    have h := hc t v ht
    rw [cell_congr (C.heap bb (cell_lt h) (.inr hbb))]; exact h
  obtain ⟨v1, x1, r1⟩ := s1
  obtain ⟨v2, x2, r2⟩ := s2
  have HI1 : Hid (∀ (wk : World) (r : Bool), Js w0 L kk pl pk pn pr gb cap 0 wk → decide (0 + (Scope.allE e1).length < K) = r → Calls Tryz.prog 17 #[eV k1 a1 b1 rc1 nm1 (.slice p1 l1 c1) (.slice q1 m1 d1), cloV pr pn pl pk] wk (EaQ w0 L kk pl pk pn pr gb cap (min (0 + (Scope.allE e1).length) K) r wk)) := fun wk r hJ hr => c_each hG hX hL hK _ e1 (Nat.lt_succ_self _) v1 _ _ _ _ _ _ _ 0 _ wk r x1 r1 (by rw [List.drop_zero]; exact hLL) h0 hJ hr
  have HI2 : Hid ((Scope.allE e1).length < K → ∀ (wk : World) (r : Bool), Js w0 L kk pl pk pn pr gb cap (Scope.allE e1).length wk → decide ((Scope.allE e1).length + (Scope.allE e2).length < K) = r → Calls Tryz.prog 17 #[eV k2 a2 b2 rc2 nm2 (.slice p2 l2 c2) (.slice q2 m2 d2), cloV pr pn pl pk] wk (EaQ w0 L kk pl pk pn pr gb cap (min ((Scope.allE e1).length + (Scope.allE e2).length) K) r wk)) := fun hk wk r hJ hr => c_each hG hX hL hK _ e2 (Nat.lt_succ_self _) v2 _ _ _ _ _ _ _ _ [] wk r x2 r2 (by
    rw [hLL, ← pre_all (oldGh w0) e1 (eV k1 a1 b1 rc1 nm1 (.slice p1 l1 c1) (.slice q1 m1 d1)), List.drop_left, List.append_nil]) hk hJ hr
  have HR := Lib.hid hr
  have HL := Lib.hid hlen
  have R0 : EcR w0 L kk pl pk pn pr gb cap K w (Scope.allE e1).length (Scope.allE e2).length 0 0 w := ⟨.inl ⟨rfl, rfl⟩, h0, J, Chg.refl w⟩
  clear x1 r1 x2 r2 hc hLL hlen hK hX hG J hr
  have hq := run_clo_nil pr pn pl pk
  go_enter Tryz.func9, Tryz.ntmps9
  go_wp2_with fail
  go_loopw [11] (fun i wr => ∃ n jj : Nat, i = .int .i64 n ∧ EcR w0 L kk pl pk pn pr gb cap K w (Scope.allE e1).length (Scope.allE e2).length n jj wr) (fun i _ => 2 - (intOf i).toNat)
  case atStart => exact ⟨0, 0, rfl, R0⟩
  case round =>
    obtain ⟨i, jj, rfl, hR⟩ := hrel
    clear R0
    have HRR := Lib.hid hR
    rcases hR.at' with ⟨rfl, rfl⟩ | ⟨rfl, rfl⟩ | ⟨rfl, rfl⟩
    · have hc := HC.out wr hR.C
      have g0 := hc 0 _ rfl
      have g1 := hc 1 _ rfl
      have g2 := hc 2 _ rfl
      have g3 := hc 3 _ rfl
      have g4 := hc 4 _ rfl
      have g5 := hc 5 _ rfl
      have g6 := hc 6 _ rfl
      have g7 := hc 7 _ rfl
      have g8 := hc 8 _ rfl
      have g9 := hc 9 _ rfl
      have g10 := hc 10 _ rfl
      clear hc hR
      by_cases h2 : 0 + (Scope.allE e1).length < K
      · go_wp2_with fail
        refine Calls.mono (HI1.out _ true (HRR.out.J.below ?bt0) (decide_eq_true h2)) ?_
        case bt0 => go_grown
        rintro e w4 ⟨rfl, J4, C4⟩
        have hB4 : Chg pn (pr + 1) wr w4 := (Chg.of_below (by go_grown)).trans C4
        rw [Nat.min_eq_left (Nat.le_of_lt h2)] at J4
        have R4 : EcR w0 L kk pl pk pn pr gb cap K w (Scope.allE e1).length (Scope.allE e2).length 1 (0 + (Scope.allE e1).length) w4 := ⟨by omega, h2, J4, HRR.out.C.trans hB4⟩
        clear C4 hB4 J4
        go_wp2_with fail
        go_roundw
        case rel => exact ⟨1, _, rfl, R4⟩
        case measure => simp [intOf]
      · go_wp2_with fail
        refine Calls.mono (HI1.out _ false (HRR.out.J.below ?bf0) (decide_eq_false h2)) ?_
        case bf0 => go_grown
        rintro e w4 ⟨rfl, J4, C4⟩
        have hB4 : Chg pn (pr + 1) wr w4 := (Chg.of_below (by go_grown)).trans C4
        have hm : min (0 + (Scope.allE e1).length) K = min L.length K := min_far (by omega) (by have := HL.out; omega)
        rw [hm] at J4
        have hF : Hid (r = false) := Lib.hid (by rw [← HR.out]; exact decide_eq_false (by have := HL.out; omega))
        have HJ := Lib.hid (And.intro J4 (HRR.out.C.trans hB4))
        clear C4 hB4 J4 hm
        go_wp2_with fail
        go_ret
        exact ⟨congrArg (fun b => Ending.returned (.bool b)) hF.out.symm, HJ.out⟩
    · have hc := HC.out wr hR.C
      have g0 := hc 11 _ rfl
      have g1 := hc 12 _ rfl
      have g2 := hc 13 _ rfl
      have g3 := hc 14 _ rfl
      have g4 := hc 15 _ rfl
      have g5 := hc 16 _ rfl
      have g6 := hc 17 _ rfl
      have g7 := hc 18 _ rfl
      have g8 := hc 19 _ rfl
      have g9 := hc 20 _ rfl
      have g10 := hc 21 _ rfl
      clear hc hR
      by_cases h2 : (Scope.allE e1).length + (Scope.allE e2).length < K
      · go_wp2_with fail
        refine Calls.mono ((HI2.out HRR.out.lt) _ true (HRR.out.J.below ?bt1) (decide_eq_true h2)) ?_
        case bt1 => go_grown
        rintro e w4 ⟨rfl, J4, C4⟩
        have hB4 : Chg pn (pr + 1) wr w4 := (Chg.of_below (by go_grown)).trans C4
        rw [Nat.min_eq_left (Nat.le_of_lt h2)] at J4
        have R4 : EcR w0 L kk pl pk pn pr gb cap K w (Scope.allE e1).length (Scope.allE e2).length 2 ((Scope.allE e1).length + (Scope.allE e2).length) w4 := ⟨by omega, h2, J4, HRR.out.C.trans hB4⟩
        clear C4 hB4 J4
        go_wp2_with fail
        go_roundw
        case rel => exact ⟨2, _, rfl, R4⟩
        case measure => simp [intOf]
      · go_wp2_with fail
        refine Calls.mono ((HI2.out HRR.out.lt) _ false (HRR.out.J.below ?bf1) (decide_eq_false h2)) ?_
        case bf1 => go_grown
        rintro e w4 ⟨rfl, J4, C4⟩
        have hB4 : Chg pn (pr + 1) wr w4 := (Chg.of_below (by go_grown)).trans C4
        have hm : min ((Scope.allE e1).length + (Scope.allE e2).length) K = min L.length K := min_far (by omega) (by have := HL.out; omega)
        rw [hm] at J4
        have hF : Hid (r = false) := Lib.hid (by rw [← HR.out]; exact decide_eq_false (by have := HL.out; omega))
        have HJ := Lib.hid (And.intro J4 (HRR.out.C.trans hB4))
        clear C4 hB4 J4 hm
        go_wp2_with fail
        go_ret
        exact ⟨congrArg (fun b => Ending.returned (.bool b)) hF.out.symm, HJ.out⟩
    · have hF : Hid (r = true) := Lib.hid (by rw [← HR.out]; exact decide_eq_true (by have := hR.lt; have := HL.out; omega))
      have hm : (Scope.allE e1).length + (Scope.allE e2).length = min L.length K := by have := hR.lt; have := HL.out; omega
      have hJ := hR.J
      rw [hm] at hJ
      have HJ := Lib.hid (And.intro hJ hR.C)
      clear hR hJ hm
      go_wp2_with fail
      go_ret
      exact ⟨congrArg (fun b => Ending.returned (.bool b)) hF.out.symm, HJ.out⟩
end Go.Proofs.YtmnpladggilgbaaGreatDoor.Vm
