/-
  A part of the proof.
-/
import Derived.Test.YtcghfoagjphaoaaGreatDoorVmCC
import Derived.Test.YtcghfoagjphaoaaGreatDoorVmBJ
import Derived.WalkKit
import Derived.Handy
set_option maxRecDepth 1000000
set_option linter.unusedSimpArgs false
/- Law RelexEdits, walked: what Relex handed back is written over. -/
namespace Go.Proofs.YtcghfoagjphaoaaGreatDoor.Vm
open Go Go.VM Go.Proofs Go.Lex Go.RowKit
abbrev sV (s : List UInt8) : Value := .string ⟨s.toArray⟩
abbrev eV (f t : Int) (x : List UInt8) : Value := .agg #[.int .i64 f, .int .i64 t, .string ⟨x.toArray⟩]
/-- What is known at each point. -/
structure Pt (n : Nat) (w : World) : Prop where
  tabs : TabsAny vE.G w
  size : n ≤ w.heap.size
theorem args_rl (g : Gh) (s : List UInt8) (f t : Int) (x : List UInt8) : RL g [.str s, edV f t x] #[sV s, eV f t x].toList := by
  refine RL_cons (by simp only [R]) (RL_cons ?_ RL_nil)
  simp only [edV, R]
  exact ⟨_, rfl, RL_cons (by simp only [R]) (RL_cons (by simp only [R]) (RL_cons (by simp only [R]) RL_nil))⟩
theorem c_aw (w : World) (hG : TabsAny vE.G w) : Calls Tryz.prog 4 #[] w fun e w' => e = .returned (.bool true) ∧ Below w.heap.size w w' :=
  law_runs vE_ok (orc_bare awake_run) Tryz.call4 hG rfl RL_nil
theorem tup2 {g : Gh} {a b : AV} {y : Value} (h : R g (.tup [a, b]) y) : ∃ u v, y = .tuple #[u, v] ∧ R g a u ∧ R g b v := by
  simp only [R, RL] at h
  obtain ⟨ys, rfl, u, l1, h1, h2, v, l2, rfl, h3, rfl⟩ := h
  refine ⟨u, v, ?_, h2, h3⟩
  cases ys; simp only at h1; subst h1; rfl
theorem tup3 {g : Gh} {a b c : AV} {y : Value} (h : R g (.tup [a, b, c]) y) : ∃ u v z, y = .tuple #[u, v, z] ∧ R g a u ∧ R g b v ∧ R g c z := by
  simp only [R, RL] at h
  obtain ⟨ys, rfl, u, l1, h1, h2, v, l2, rfl, h3, z, l3, rfl, h4, rfl⟩ := h
  refine ⟨u, v, z, ?_, h2, h3, h4⟩
  cases ys; simp only at h1; subst h1; rfl
theorem tup4 {g : Gh} {a b c d : AV} {y : Value} (h : R g (.tup [a, b, c, d]) y) : ∃ u v z t, y = .tuple #[u, v, z, t] ∧ R g a u ∧ R g b v ∧ R g c z ∧ R g d t := by
  simp only [R, RL] at h
  obtain ⟨ys, rfl, u, l1, h1, h2, v, l2, rfl, h3, z, l3, rfl, h4, t, l4, rfl, h5, rfl⟩ := h
  refine ⟨u, v, z, t, ?_, h2, h3, h4, h5⟩
  cases ys; simp only at h1; subst h1; rfl
theorem agg2 {g : Gh} {a b : AV} {y : Value} (h : R g (.agg [a, b]) y) : ∃ u v, y = .agg #[u, v] ∧ R g a u ∧ R g b v := by
  simp only [R, RL] at h
  obtain ⟨ys, rfl, u, l1, h1, h2, v, l2, rfl, h3, rfl⟩ := h
  refine ⟨u, v, ?_, h2, h3⟩
  cases ys; simp only at h1; subst h1; rfl
/-- What all of it comes to. -/
def out (s : List UInt8) (f t : Int) (x : List UInt8) : List UInt8 := (doS s f t x).1
def err (s : List UInt8) (f t : Int) (x : List UInt8) : Int := (doS s f t x).2
def tks (s : List UInt8) (f t : Int) (x : List UInt8) : List (Nat × List UInt8) := if err s f t x = 0 then tokens (out s f t x) else []
def hd (s : List UInt8) (f t : Int) (x : List UInt8) : Int := if err s f t x = 0 then (headN (tokens s) (tokens (out s f t x)) : Int) else 0
def tl (s : List UInt8) (f t : Int) (x : List UInt8) : Int := if err s f t x = 0 then (tailN (tokens s) (tokens (out s f t x)) : Int) else 0
theorem px_ok {s x : List UInt8} (f t : Int) (hx : x.length ≤ 1000000) : ∃ b, (orc vE).bare 7 [.str s, edV f t x] = some (.tup [b, .agg [.int .i64 (hd s f t x), .int .i64 (tl s f t x)], .int .i64 (err s f t x)]) ∧ IsSl 2 b ((tks s f t x).map tok) := by
  unfold hd tl tks err out
  by_cases h : (doS s f t x).2 = 0
  · obtain ⟨b, h1, h2⟩ := relex_ok f t hx h
    exact ⟨b, by rw [if_pos h, if_pos h, h1, h], by rw [if_pos h]; exact h2⟩
  · exact ⟨.nils, by rw [if_neg h, if_neg h]; exact relex_fail f t hx h, by rw [if_neg h]; exact IsSl.nils⟩
theorem rx_ok {s x : List UInt8} (f t : Int) (hx : x.length ≤ 1000000) : ∃ b, (orc vE).bare 8 [.str s, edV f t x] = some (.tup [b, .int .i64 (hd s f t x), .int .i64 (tl s f t x), .int .i64 (err s f t x)]) ∧ IsSl 2 b ((tks s f t x).map tok) := by
  unfold hd tl tks err out
  by_cases h : (doS s f t x).2 = 0
  · obtain ⟨b, h1, h2⟩ := rrelex_ok f t hx h
    exact ⟨b, by rw [if_pos h, if_pos h, h1, h], by rw [if_pos h]; exact h2⟩
  · exact ⟨.nils, by rw [if_neg h, if_neg h]; exact rrelex_fail f t hx h, by rw [if_neg h]; exact IsSl.nils⟩
theorem c_pd (s : List UInt8) (f t : Int) (x : List UInt8) (hx : x.length ≤ 1000000) (w : World) (hG : TabsAny vE.G w) :
    Calls Tryz.prog 5 #[sV s, eV f t x] w fun e w' => e = .returned (.tuple #[sV (out s f t x), .int .i64 (err s f t x)]) ∧ Below w.heap.size w w' := by
  obtain ⟨m, hm⟩ := (orc_ok vE).bare _ _ _ (do_ok (s := s) f t hx)
  refine (closedArgs vE_ok (hm m (Nat.le_refl _)) Tryz.call5 hG rfl (args_rl _ s f t x)).mono ?_
  rintro e w' ⟨y, g, rfl, hy, hB⟩
  obtain ⟨u, v, rfl, h1, h2⟩ := tup2 hy
  simp only [R] at h1 h2
  subst h1; subst h2
  exact ⟨rfl, hB⟩
theorem c_rd (s : List UInt8) (f t : Int) (x : List UInt8) (hx : x.length ≤ 1000000) (w : World) (hG : TabsAny vE.G w) :
    Calls Tryz.prog 6 #[sV s, eV f t x] w fun e w' => e = .returned (.tuple #[sV (out s f t x), .int .i64 (err s f t x)]) ∧ Below w.heap.size w w' := by
  obtain ⟨m, hm⟩ := (orc_ok vE).bare _ _ _ (rdo_ok (s := s) f t hx)
  refine (closedArgs vE_ok (hm m (Nat.le_refl _)) Tryz.call6 hG rfl (args_rl _ s f t x)).mono ?_
  rintro e w' ⟨y, g, rfl, hy, hB⟩
  obtain ⟨u, v, rfl, h1, h2⟩ := tup2 hy
  simp only [R] at h1 h2
  subst h1; subst h2
  exact ⟨rfl, hB⟩
/-- Tokens in memory of their own. -/
structure Toks (es : List (Nat × List UInt8)) (n : Nat) (w : World) (x : Value) : Prop where
  ex : ∃ g v, IsSl 2 v (es.map tok) ∧ R g v x ∧ Fresh vE.G n g w
theorem c_px (s : List UInt8) (f t : Int) (x : List UInt8) (hx : x.length ≤ 1000000) (w : World) (hG : TabsAny vE.G w) :
    Calls Tryz.prog 7 #[sV s, eV f t x] w fun e w' => ∃ a cap, e = .returned (.tuple #[.slice a (tks s f t x).length cap, .agg #[.int .i64 (hd s f t x), .int .i64 (tl s f t x)], .int .i64 (err s f t x)]) ∧ Below w.heap.size w w' ∧ Toks (tks s f t x) w.heap.size w' (.slice a (tks s f t x).length cap) := by
  obtain ⟨b, hb, hsl⟩ := px_ok (s := s) f t hx
  refine (calmArgs vE_ok (by kernel_rfl) hb Tryz.call7 hG rfl fun g => args_rl g s f t x).mono ?_
  rintro e w' ⟨y, g, rfl, hy, hB, hF⟩
  obtain ⟨u, v, z, rfl, h1, h2, h3⟩ := tup3 hy
  obtain ⟨p, q, rfl, h4, h5⟩ := agg2 h2
  simp only [R] at h3 h4 h5
  subst h3; subst h4; subst h5
  obtain ⟨a, cap, rfl, _, _⟩ := slv hsl h1
  rw [List.length_map] at h1 ⊢
  exact ⟨a, cap, rfl, hB, ⟨g, b, hsl, h1, hF⟩⟩
theorem c_rx (s : List UInt8) (f t : Int) (x : List UInt8) (hx : x.length ≤ 1000000) (w : World) (hG : TabsAny vE.G w) :
    Calls Tryz.prog 8 #[sV s, eV f t x] w fun e w' => ∃ a cap, e = .returned (.tuple #[.slice a (tks s f t x).length cap, .int .i64 (hd s f t x), .int .i64 (tl s f t x), .int .i64 (err s f t x)]) ∧ Below w.heap.size w w' ∧ Toks (tks s f t x) w.heap.size w' (.slice a (tks s f t x).length cap) := by
  obtain ⟨b, hb, hsl⟩ := rx_ok (s := s) f t hx
  refine (calmArgs vE_ok (by kernel_rfl) hb Tryz.call8 hG rfl fun g => args_rl g s f t x).mono ?_
  rintro e w' ⟨y, g, rfl, hy, hB, hF⟩
  obtain ⟨u, v, z, q, rfl, h1, h2, h3, h4⟩ := tup4 hy
  simp only [R] at h2 h3 h4
  subst h2; subst h3; subst h4
  obtain ⟨a, cap, rfl, _, _⟩ := slv hsl h1
  rw [List.length_map] at h1 ⊢
  exact ⟨a, cap, rfl, hB, ⟨g, b, hsl, h1, hF⟩⟩
/-- Tokens that stand. -/
def Tk (es : List (Nat × List UInt8)) (w : World) (x : Value) : Prop := ∃ g v, IsSl 2 v (es.map tok) ∧ R g v x ∧ LeF g (oldGh w)
theorem c_sm {es : List (Nat × List UInt8)} {x y : Value} (w : World) (hG : TabsAny vE.G w) (h1 : Tk es w x) (h2 : Tk es w y) :
    Calls Tryz.prog 9 #[x, y] w fun e w' => e = .returned (.bool true) ∧ Below w.heap.size w w' := by
  obtain ⟨g1, v1, a1, b1, c1⟩ := h1
  obtain ⟨g2, v2, a2, b2, c2⟩ := h2
  exact law_runs vE_ok (rsame_ok a1 a2) Tryz.call9 hG (by simp only [bares_cons, a1.bare, a2.bare]; rfl) (RL_cons (R_bare c1 _ _ a1.bare b1) (RL_cons (R_bare c2 _ _ a2.bare b2) RL_nil))
end Go.Proofs.YtcghfoagjphaoaaGreatDoor.Vm
/- Law RelexEdits, walked. -/
namespace Go.Proofs.YtcghfoagjphaoaaGreatDoor.Vm
open Go Go.VM Go.Proofs Go.Lex Go.RowKit
set_option maxHeartbeats 4000000 in
theorem walk_long (s : List UInt8) (f t : Int) (x : List UInt8) (h : 2000 < s.length) (w : World) (hG : TabsAny vE.G w) :
    Calls Tryz.prog 3 #[sV s, eV f t x] w fun e w' => e = .returned (.bool true) ∧ Below w.heap.size w w' := by
  go_enter Tryz.func3, Tryz.ntmps3
  go_wp2_with fail
  refine (c_aw _ (hG.below (by go_grown))).mono ?_
  rintro e w' ⟨rfl, hB⟩
  go_wp2
  go_ret
  exact ⟨rfl, Below.trans (by go_grown) (hB.mono (by simp))⟩
set_option maxHeartbeats 8000000 in
theorem walk_far (s : List UInt8) (f t : Int) (x : List UInt8) (h : ¬ 2000 < s.length) (h2 : 2000 < x.length) (w : World) (hG : TabsAny vE.G w) :
    Calls Tryz.prog 3 #[sV s, eV f t x] w fun e w' => e = .returned (.bool true) ∧ Below w.heap.size w w' := by
  go_enter Tryz.func3, Tryz.ntmps3
  go_wp2_with fail
  refine (c_aw _ (hG.below (by go_grown))).mono ?_
  rintro e w' ⟨rfl, hB⟩
  go_wp2
  go_ret
  exact ⟨rfl, Below.trans (by go_grown) (hB.mono (by simp))⟩
/-- The variables that lie in memory. -/
structure Ec (n : Nat) (f t : Int) (x : List UInt8) (w : World) : Prop where
  c0 : w.cell? ⟨n, 0, none⟩ = some (.int .i64 f)
  c1 : w.cell? ⟨n, 1, none⟩ = some (.int .i64 t)
  c2 : w.cell? ⟨n, 2, none⟩ = some (.string ⟨x.toArray⟩)
structure Kc (n : Nat) (a b : Int) (w : World) : Prop where
  k0 : w.cell? ⟨n, 0, none⟩ = some (.int .i64 a)
  k1 : w.cell? ⟨n, 1, none⟩ = some (.int .i64 b)
theorem cell_below {w w' : World} (k : Below w.heap.size w w') {b o : Nat} {v : Value} (h : w.cell? ⟨b, o, none⟩ = some v) : w'.cell? ⟨b, o, none⟩ = some v := by
  obtain ⟨vs, ty, fz, h3, _⟩ := cells_of h
  rw [cell_congr (k.block b (lt_of_heap h3))]; exact h
theorem Ec.below {n : Nat} {f t : Int} {x : List UInt8} {w w' : World} (h : Ec n f t x w) (k : Below w.heap.size w w') : Ec n f t x w' := ⟨cell_below k h.c0, cell_below k h.c1, cell_below k h.c2⟩
theorem Kc.below {n : Nat} {a b : Int} {w w' : World} (h : Kc n a b w) (k : Below w.heap.size w w') : Kc n a b w' := ⟨cell_below k h.k0, cell_below k h.k1⟩
theorem below_trans {a b c : World} (h : Below a.heap.size a b) (k : Below b.heap.size b c) : Below a.heap.size a c := h.trans (k.mono h.size)
theorem Toks.tk {es : List (Nat × List UInt8)} {n : Nat} {w w' : World} {x : Value} (h : Toks es n w x) (k : Below w.heap.size w w') : Tk es w' x := by
  obtain ⟨g, v, a, b, c⟩ := h.ex
  exact ⟨g, v, a, b, c.le.below k⟩
theorem tks_len (s : List UInt8) (f t : Int) (x : List UInt8) : (tks s f t x).length ≤ 65536 := by
  unfold tks
  split
  · have h1 := (tokens_few _ (out s f t x) (Nat.le_refl _)).1
    have h2 := doS_len (s := s) (f := f) (t := t) (x := x)
    unfold out at h1 ⊢
    omega
  · simp
theorem noTexts : NoTexts vE.G := plain_of (t := vG) (by kernel_rfl)
/-- Tokens that are written over. -/
structure Sp (es : List (Nat × List UInt8)) (lo hi : Nat) (x : Value) (w0 w : World) : Prop where
  chg : Chg lo hi w0 w
  left : ∃ g v, IsSl 2 v (es.map tok) ∧ R g v x ∧ LeftG g lo hi w ∧ ∀ b o s, g.F b o = some (.string s) → lo ≤ b
theorem Toks.sp {es : List (Nat × List UInt8)} {n : Nat} {w w' : World} {x : Value} (h : Toks es n w x) (hG : TabsAny vE.G w) (k : Below w.heap.size w w') : Sp es n w.heap.size x w' w' := by
  obtain ⟨g, v, a, b, c⟩ := h.ex
  exact ⟨Chg.refl _, g, v, a, b, c.left.below c.le k, fun b o s hs => c.new hG noTexts (u := .str s.data.toList) rfl (by simp only [R]) hs⟩
theorem Sp.at {es : List (Nat × List UInt8)} {lo hi : Nat} {a : Option Addr} {cap : Nat} {w0 w : World} (h : Sp es lo hi (.slice a es.length cap) w0 w) {k : Nat} (hk : k < es.length) :
    ∃ b o, a = some ⟨b, o, none⟩ ∧ (∃ u, w.cell? ⟨b, o + k * 2 + 1, none⟩ = some u) ∧ w.frozen? ⟨b, o + k * 2 + 1, none⟩ = false ∧ ∀ s, Sp es lo hi (.slice a es.length cap) w0 (w.setCell ⟨b, o + k * 2 + 1, none⟩ (.string s)) := by
  obtain ⟨g, v, h1, h2, h3, h4⟩ := h.left
  obtain ⟨a', cap', e, _, h5⟩ := slv h1 h2
  rw [List.length_map] at e
  cases e
  have hne : es.map tok ≠ [] := by intro e; rw [List.map_eq_nil_iff] at e; rw [e] at hk; simp at hk
  obtain ⟨b, o, rfl, h6⟩ := h5 hne
  have hg : (es.map tok)[k]? = some (tok es[k]) := by rw [List.getElem?_map, List.getElem?_eq_getElem hk]; rfl
  obtain ⟨_, h7⟩ := RAtE_el h6 hg
  obtain ⟨x, h8, h9⟩ := RAt_el (k := 1) h7 (v := .str es[k].2) rfl
  simp only [R] at h9
  subst h9
  have hlo := h4 b _ _ h8
  obtain ⟨_, q2, q3⟩ := h3.cell b _ _ hlo h8
  refine ⟨b, o, rfl, q2, q3, fun s => ?_⟩
  obtain ⟨r1, r2⟩ := h3.set (.string s) hlo h8 (fun _ _ _ e => by cases e)
  exact ⟨h.chg.trans r2, g, v, h1, h2, r1, h4⟩
set_option maxHeartbeats 16000000 in
theorem walk_near (s : List UInt8) (f t : Int) (x : List UInt8) (h : ¬ 2000 < s.length) (h2 : ¬ 2000 < x.length) (w : World) (hG : TabsAny vE.G w) :
    Calls Tryz.prog 3 #[sV s, eV f t x] w fun e w' => e = .returned (.bool true) ∧ Below w.heap.size w w' := by
  go_enter Tryz.func3, Tryz.ntmps3
  go_wp2_with fail
  obtain ⟨W0, hW0⟩ : ∃ W0, W0 = w.alloc (.cells #[.int .i64 f, .int .i64 t, .string ⟨x.toArray⟩] 25) := ⟨_, rfl⟩
  rw [← hW0]
  have B0 : Below w.heap.size w W0 := by rw [hW0]; go_grown
  have E0 : Ec w.heap.size f t x W0 := by
    have e : W0.heap[w.heap.size]? = some (.cells #[.int .i64 f, .int .i64 t, .string ⟨x.toArray⟩] 25) := by rw [hW0]; exact World.heap_alloc_new
    exact ⟨by rw [cell_of e]; rfl, by rw [cell_of e]; rfl, by rw [cell_of e]; rfl⟩
  have G0 := hG.below B0
  clear hW0 hG
  refine (c_pd s f t x (by omega) W0 G0).mono ?_
  rintro e w1 ⟨rfl, B1⟩
  have E1 := E0.below B1
  have G1 := G0.below B1
  have HB1 := below_trans B0 B1
  clear E0 G0 B0 B1
  obtain ⟨c0, c1, c2⟩ := E1
  go_wp2_with fail
  have E1 : Ec w.heap.size f t x w1 := ⟨c0, c1, c2⟩
  clear c0 c1 c2
  refine (c_rd s f t x (by omega) w1 G1).mono ?_
  rintro e w2 ⟨rfl, B2⟩
  have E2 := E1.below B2
  have G2 := G1.below B2
  have HB2 := below_trans HB1 B2
  clear E1 G1 HB1 B2
  obtain ⟨c0, c1, c2⟩ := E2
  go_wp2_with fail
  have E2 : Ec w.heap.size f t x w2 := ⟨c0, c1, c2⟩
  clear c0 c1 c2
  refine (c_px s f t x (by omega) w2 G2).mono ?_
  rintro e w3 ⟨a3, n3, rfl, B3, T3⟩
  have B3' := B3.size
  have E3 := E2.below B3
  have G3 := G2.below B3
  have HB3 := below_trans HB2 B3
  have L2 : w.heap.size < w2.heap.size := cell_lt E2.c0
  have G2' := G2
  clear E2 G2 HB2
  have al : Below w3.heap.size w3 (w3.alloc (.cells #[.int .i64 (hd s f t x), .int .i64 (tl s f t x)] 32)) := by go_grown
  have E4 := E3.below al
  have G4 := G3.below al
  have HB4 := below_trans HB3 al
  have Z3 : w2.heap.size ≤ w3.heap.size := B3'
  have K4 : Kc w3.heap.size (hd s f t x) (tl s f t x) (w3.alloc (.cells #[.int .i64 (hd s f t x), .int .i64 (tl s f t x)] 32)) := by
    have e : (w3.alloc (.cells #[.int .i64 (hd s f t x), .int .i64 (tl s f t x)] 32)).heap[w3.heap.size]? = some (.cells #[.int .i64 (hd s f t x), .int .i64 (tl s f t x)] 32) := World.heap_alloc_new
    exact ⟨by rw [cell_of e]; rfl, by rw [cell_of e]; rfl⟩
  have G3' := G3
  clear E3 G3 HB3
  obtain ⟨c0, c1, c2⟩ := E4
  go_wp2_with fail
  generalize w3.alloc (.cells #[.int .i64 (hd s f t x), .int .i64 (tl s f t x)] 32) = W4 at *
  have E4 : Ec w.heap.size f t x W4 := ⟨c0, c1, c2⟩
  clear c0 c1 c2
  refine (c_rx s f t x (by omega) W4 G4).mono ?_
  rintro e w5 ⟨a5, n5, rfl, B5, T5⟩
  have E5 := E4.below B5
  have G5 := G4.below B5
  have K5 := K4.below B5
  have HB5 := below_trans HB4 B5
  have Y3 := T3.tk (below_trans al B5)
  have S5 := T3.sp G3' (below_trans al B5)
  have Y5 := T5.tk (Below.refl _ _)
  clear E4 G4 K4 HB4
  go_wp2_with fail
  refine (c_sm w5 G5 Y3 Y5).mono ?_
  rintro e w6 ⟨rfl, B6⟩
  have E6 := E5.below B6
  have G6 := G5.below B6
  have HB6 := below_trans HB5 B6
  obtain ⟨k0, k1⟩ := K5.below B6
  have S6 : Sp (tks s f t x) w2.heap.size w3.heap.size (.slice a3 (tks s f t x).length n3) w6 w6 := T3.sp G3' ((below_trans al B5).trans (B6.mono (Nat.le_trans (by exact al.size) B5.size)))
  have Y6 : Toks (tks s f t x) W4.heap.size w5 (.slice a5 (tks s f t x).length n5) := T5
  clear E5 G5 K5 HB5 Y3 Y5 S5 T5
  go_wp2_with fail
  have hn := tks_len s f t x
  go_loopw [16] (fun i wr => ∃ k : Nat, k ≤ (tks s f t x).length ∧ i = .int .i64 k ∧ Sp (tks s f t x) w2.heap.size w3.heap.size (.slice a3 (tks s f t x).length n3) w6 wr) (fun i _ => (tks s f t x).length - (intOf i).toNat)
  case atStart => exact ⟨0, Nat.zero_le _, rfl, S6⟩
  case round =>
    obtain ⟨k, hk, rfl, hS⟩ := hrel
    by_cases hlt : k < (tks s f t x).length
    · obtain ⟨b, o, rfl, ⟨u, hu⟩, hf, hset⟩ := hS.at hlt
      go_wp2
      go_roundw
      case rel => exact ⟨k + 1, by omega, by go_num, hset _⟩
      case measure => simp [intOf]; omega
    · have EW : Ec w.heap.size f t x wr := by
        have hb : Below w2.heap.size w6 wr := hS.chg.below (Nat.le_refl _)
        have e : wr.heap[w.heap.size]? = w6.heap[w.heap.size]? := hb.block _ L2
        exact ⟨by rw [cell_congr e]; exact E6.c0, by rw [cell_congr e]; exact E6.c1, by rw [cell_congr e]; exact E6.c2⟩
      have GW : TabsAny vE.G wr := G6.chg hS.chg fun b cs hb hne => G2'.lt hb hne
      have MW : Tk (tks s f t x) wr (.slice a5 (tks s f t x).length n5) := by
        obtain ⟨g, v, q1, q2, q3⟩ := Y6.ex
        refine ⟨g, v, q1, q2, (q3.le.below B6).chg hS.chg fun b o u hu => ?_⟩
        rcases Nat.lt_or_ge b W4.heap.size with hb | hb
        · obtain ⟨cs, r1, r2⟩ := q3.tab b o u hb hu
          exact .inl (G2'.lt r1 (by intro e; subst e; simp at r2))
        · exact .inr (Nat.le_trans al.size hb)
      have HW : Below w.heap.size w wr := HB6.trans (hS.chg.below (Nat.le_of_lt L2))
      clear E6 G6 HB6 hS S6 Y6 T3 G3' B6 B5 al B3 k0 k1
      obtain ⟨c0, c1, c2⟩ := EW
      go_wp2_with fail
      refine (c_px s f t x (by omega) wr GW).mono ?_
      rintro e w7 ⟨a7, n7, rfl, B7, T7⟩
      have M7 : Tk (tks s f t x) w7 (.slice a5 (tks s f t x).length n5) := by
        obtain ⟨g, v, q1, q2, q3⟩ := MW
        exact ⟨g, v, q1, q2, q3.below B7⟩
      have Y7 := T7.tk (Below.refl _ _)
      have G7 := GW.below B7
      have H7 := below_trans HW B7
      clear GW MW HW T7 c0 c1 c2
      go_wp2_with fail
      refine (c_sm w7 G7 Y7 M7).mono ?_
      rintro e w8 ⟨rfl, B8⟩
      have G8 := G7.below B8
      have H8 := below_trans H7 B8
      clear G7 H7 Y7 M7
      go_wp2_with fail
      refine (c_aw w8 G8).mono ?_
      rintro e w9 ⟨rfl, B9⟩
      have H9 := below_trans H8 B9
      go_wp2
      go_ret
      exact ⟨rfl, H9⟩
/-- The law. -/
theorem law_walk (s : List UInt8) (f t : Int) (x : List UInt8) (w : World) (hG : TabsAny vE.G w) :
    Calls Tryz.prog 3 #[sV s, eV f t x] w fun e w' => e = .returned (.bool true) ∧ Below w.heap.size w w' := by
  by_cases h : 2000 < s.length
  · exact walk_long s f t x h w hG
  · by_cases h2 : 2000 < x.length
    · exact walk_far s f t x h h2 w hG
    · exact walk_near s f t x h h2 w hG
end Go.Proofs.YtcghfoagjphaoaaGreatDoor.Vm
/- An edit: arguments. -/
namespace Go.Proofs.YtcghfoagjphaoaaGreatDoor.Vm
open Go Go.VM Go.Proofs
def lawS : List TypeId := [9, 3, 23, 25]
theorem lawS_ok : ∀ t, inS lawS t = true → okTy Tryz.prog lawS t = true := by
  intro t ht
  have : t ∈ lawS := by
    obtain ⟨u, hu, e⟩ := List.any_eq_true.1 ht
    rw [← Nat.eq_of_beq_eq_true e]; exact hu
  exact List.all_eq_true.1 (show (lawS.all fun t => okTy Tryz.prog lawS t) = true by kernel_rfl) t this
theorem av_str {n t : Nat} {cs : List AV} (hu : Tryz.prog.underlying t = some .string) (h : AvOf Tryz.prog n t cs) : ∃ s, cs = [.str s] ∧ s.length ≤ maxLen := by
  cases n with
  | zero => cases h
  | succ n => simp only [AvOf, hu] at h; exact h
theorem av_int {n t : Nat} {k : IntKind} {cs : List AV} (hu : Tryz.prog.underlying t = some (.int k)) (h : AvOf Tryz.prog n t cs) : ∃ m, cs = [.int k m] ∧ k.min ≤ m ∧ m ≤ k.max := by
  cases n with
  | zero => cases h
  | succ n => simp only [AvOf, hu] at h; exact h
theorem span_of {n : Nat} {cs : List AV} (h : AvOf Tryz.prog n 23 cs) : ∃ x y, cs = [.int .i64 x, .int .i64 y] := by
  cases n with
  | zero => cases h
  | succ n =>
    simp only [AvOf, Tryz.underlying23] at h
    obtain ⟨a0, b0, rfl, h0, a1, b1, rfl, h1, rfl⟩ := h
    obtain ⟨x, rfl, _⟩ := av_int Tryz.underlying3 h0
    obtain ⟨y, rfl, _⟩ := av_int Tryz.underlying3 h1
    exact ⟨x, y, rfl⟩
theorem edit_of {n : Nat} {cs : List AV} (h : AvOf Tryz.prog n 25 cs) : ∃ e : Int × Int × List UInt8, cs = [.int .i64 e.1, .int .i64 e.2.1, .str e.2.2] := by
  cases n with
  | zero => cases h
  | succ n =>
    simp only [AvOf, Tryz.underlying25] at h
    obtain ⟨a0, b0, rfl, h0, a1, b1, rfl, h1, rfl⟩ := h
    obtain ⟨x, y, rfl⟩ := span_of h0
    obtain ⟨s, rfl, _⟩ := av_str Tryz.underlying9 h1
    exact ⟨(x, y, s), rfl⟩
end Go.Proofs.YtcghfoagjphaoaaGreatDoor.Vm
