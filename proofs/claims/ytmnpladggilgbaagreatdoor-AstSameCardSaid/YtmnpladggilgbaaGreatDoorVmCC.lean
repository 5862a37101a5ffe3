/-
  A part of the proof.
-/
import Derived.Test.YtmnpladggilgbaaGreatDoorVmCB
import Derived.WalkKit
import Derived.Handy
import Derived.Maps.AppendAt
set_option maxRecDepth 1000000
set_option linter.unusedSimpArgs false
/- rostrumref14.All, walked. -/
namespace Go.Proofs.YtmnpladggilgbaaGreatDoor.Vm
open Go Go.VM Go.Proofs Go.Scope Go.RowKit
/-- Memory behind a slice's growth. -/
structure Gr (w w' : World) (s s' : Value) : Prop where
  rest : w'.os = w.os ∧ w'.tape = w.tape ∧ w'.output = w.output
  size : w.heap.size ≤ w'.heap.size
  block : ∀ b, b < w.heap.size → some b ≠ s.ownBlock → w'.heap[b]? = w.heap[b]?
  place : s'.ownBlock = s.ownBlock ∨ ∃ b, s'.ownBlock = some b ∧ w.heap.size ≤ b
theorem Gr.refl (w : World) (s : Value) : Gr w w s s := ⟨⟨rfl, rfl, rfl⟩, Nat.le_refl _, fun _ _ _ => rfl, .inl rfl⟩
theorem Gr.trans {w w1 w2 : World} {s s1 s2 : Value} (h : Gr w w1 s s1) (k : Gr w1 w2 s1 s2) : Gr w w2 s s2 := by
  refine ⟨⟨k.rest.1.trans h.rest.1, k.rest.2.1.trans h.rest.2.1, k.rest.2.2.trans h.rest.2.2⟩, Nat.le_trans h.size k.size, fun b hb hn => ?_, ?_⟩
  · rw [k.block b (Nat.lt_of_lt_of_le hb h.size) ?_, h.block b hb hn]
    rcases h.place with e | ⟨c, e, hc⟩
    · rw [e]; exact hn
    · rw [e]; intro q; cases q; omega
  · rcases k.place with e | ⟨c, e, hc⟩
    · rw [e]; exact h.place
    · exact .inr ⟨c, e, Nat.le_trans h.size hc⟩
theorem Gr.alloc (w : World) (o : Go.Obj) (s : Value) : Gr w (w.alloc o) s s :=
  ⟨⟨rfl, rfl, rfl⟩, by simp, fun b hb _ => World.heap_alloc_lt hb, .inl rfl⟩
theorem Gr.grown {w w' : World} {s s' : Value} (h : w.grownBy w' s.ownBlock) (k : s'.ownBlock = s.ownBlock ∨ s'.ownBlock = some w.heap.size) : Gr w w' s s' :=
  ⟨⟨h.os, h.tape, h.output⟩, h.size, fun b hb hn => h.block b hb hn, k.imp id fun e => ⟨_, e, Nat.le_refl _⟩⟩
theorem Gr.below {base n : Nat} {t : TypeId} {z : Nat} {xs : List Value} {w0 w w' : World} {s s' : Value} (h : Gr w w' s s') (hb : Below base w0 w) (ho : w.ownsRow base t z s n xs) (hs : base ≤ w.heap.size) : Below base w0 w' :=
  ⟨h.rest.1.trans hb.os, h.rest.2.1.trans hb.tape, h.rest.2.2.trans hb.output, Nat.le_trans hb.size h.size, fun b hk => by
    rw [h.block b (by omega) ?_]
    · exact hb.block b hk
    · intro e; have := (ho.lt b e.symm).1; omega⟩
theorem Gr.cell {w w' : World} {s s' : Value} (h : Gr w w' s s') {b o : Nat} {v : Value} (hc : w.cell? ⟨b, o, none⟩ = some v) (hn : some b ≠ s.ownBlock) : w'.cell? ⟨b, o, none⟩ = some v := by
  rw [cell_congr (h.block b (cell_lt hc) hn)]; exact hc
theorem einfo : (Tryz.prog.info? 27).map (fun i => (i.zero, i.size, i.bytes)) = some (some (.agg #[.int .u8 0, .int .i64 0, .int .i64 0, .bool false, .string .empty, .slice none 0 0, .slice none 0 0]), 7, 96) := by kernel_rfl
theorem old_below {w0 w : World} (H : Below w0.heap.size w0 w) : LeF (oldGh w0) (oldGh w) := LeF.below ⟨fun _ _ _ h => h, fun _ _ h => h⟩ H
/-- What All hands back. -/
def AllQ (w0 : World) (e : Exr) (y s : Value) (n : Nat) (xs : List Value) (w : World) (r : Ending) (w' : World) : Prop :=
  ∃ s', r = .returned s' ∧ w'.ownsRow w0.heap.size 27 7 s' (n + (Scope.allE e).length) (xs ++ cellsL (pre (oldGh w0) e y)) ∧ Gr w w' s s'
structure AllR (w0 w : World) (B : Nat) (s yb : Value) (ls : List Exr) (tot : List Value) (nt : Nat) (j : Nat) (s' : Value) (wr : World) : Prop where
  le : j ≤ ls.length
  own : ∃ n' xs', wr.ownsRow w0.heap.size 27 7 s' n' xs' ∧ xs' ++ cellsL (pres (oldGh w0) (ls.drop j) yb j) = tot ∧ n' + (allEs (ls.drop j)).length = nt
  gr : Gr w wr s s'
  cell : wr.cell? ⟨B, 6, none⟩ = some yb
  ne : some B ≠ s'.ownBlock
set_option maxHeartbeats 4000000 in
theorem c_all (w0 : World) : ∀ (N : Nat) (e : Exr), SizeOf.sizeOf e < N → ∀ (v : AV) (k a b : Int) (rc : Bool) (nm : ByteArray) (ya yb s : Value) (n : Nat) (xs : List Value) (w : World), IsX e v → VM.R (oldGh w0) v (eV k a b rc nm ya yb) → Below w0.heap.size w0 w → w.ownsRow w0.heap.size 27 7 s n xs → n + (Scope.allE e).length ≤ 100000 →
    Calls Tryz.prog 8 #[s, eV k a b rc nm ya yb] w (AllQ w0 e (eV k a b rc nm ya yb) s n xs w) := by
  intro N
  induction N with
  | zero => intro e h; omega
  | succ N ih =>
    intro e he v k a b rc nm ya yb s n xs w hv hy hB hown hn
    obtain ⟨i0, hi, hz0, hz1, hz2⟩ := info_parts einfo
    obtain ⟨k0, a0, b0, rc0, nm0, ya0, yb0, ls, x, fs, ey, ⟨k', sp, rc', nm', ps, rfl⟩, hx, hs, hr, o5, o6⟩ := xval hv hy
    cases ey
    simp only [Exr.mk.sizeOf_spec] at he
    have IH : Hid (∀ t ∈ ls, ∀ (v : AV) (k a b : Int) (rc : Bool) (nm : ByteArray) (ya yb s : Value) (n : Nat) (xs : List Value) (w : World), IsX t v → VM.R (oldGh w0) v (eV k a b rc nm ya yb) → Below w0.heap.size w0 w → w.ownsRow w0.heap.size 27 7 s n xs → n + (Scope.allE t).length ≤ 100000 →
      Calls Tryz.prog 8 #[s, eV k a b rc nm ya yb] w (AllQ w0 t (eV k a b rc nm ya yb) s n xs w)) := fun t ht => ih t (by have := List.sizeOf_lt_of_mem ht; omega)
    clear ih
    obtain ⟨al, cap, rfl, hcap, _⟩ := slv hx hr
    have hlen : fs.length = ls.length := hs.len
    rw [hlen] at hr hcap hy ⊢
    have HK : Hid (∀ {i : Nat} (hi : i < ls.length), ∃ (blk o cap' : Nat) (v : AV) (k a b : Int) (rc : Bool) (nm : ByteArray) (ya' yb' : Value), Value.slice al ls.length cap = .slice (some ⟨blk, o, none⟩) ls.length cap' ∧ IsX ls[i] v ∧ kidV (oldGh w0) (Value.slice al ls.length cap) i = eV k a b rc nm ya' yb' ∧ VM.R (oldGh w0) v (eV k a b rc nm ya' yb') ∧
      (oldGh w0).F blk (o + i * 7) = some (.int .u8 k) ∧ (oldGh w0).F blk (o + i * 7 + 1) = some (.int .i64 a) ∧ (oldGh w0).F blk (o + i * 7 + 2) = some (.int .i64 b) ∧ (oldGh w0).F blk (o + i * 7 + 3) = some (.bool rc) ∧ (oldGh w0).F blk (o + i * 7 + 4) = some (.string nm) ∧ (oldGh w0).F blk (o + i * 7 + 5) = some ya' ∧ (oldGh w0).F blk (o + i * 7 + 6) = some yb' ∧ (∃ p m c, ya' = .slice p m c) ∧ (∃ p m c, yb' = .slice p m c)) := fun hi => ekid hx hs hr hi
    have hmax : ls.length ≤ 9223372036854775807 := by rw [← hlen]; exact slen_lt hx
    clear hx hs hr hv hy
    have HB : Hid (Below w0.heap.size w0 w) := hB
    have HO : Hid (w.ownsRow w0.heap.size 27 7 s n xs) := hown
    have hsz : w0.heap.size ≤ w.heap.size := hB.size
    have hown' := (hown.alloc (.cells #[.int .u8 k, .int .i64 a, .int .i64 b, .bool rc, .string nm, ya, .slice al ls.length cap] 27)).alloc (.cells #[.int .u8 k, .int .i64 a, .int .i64 b, .bool rc, .string nm, ya, .slice al ls.length cap] 27)
    have hn1 : n + 1 ≤ 100000 := by have := all_pos (.mk k' sp rc' nm' ps ls); omega
    clear hB hown
    go_enter Tryz.func8, Tryz.ntmps8
    go_wp2_with (first
      | (at_builtin; refine wpList_append_own_at _ rfl _ _ 25 rfl w0.heap.size 27 i0 _ 7 96 Tryz.underlying25 hi hz0 hz1 hz2 rfl (by decide) _ n xs rfl hown' ⟨w.heap.size + 1, 0, none⟩ 1 1 [.int .u8 k, .int .i64 a, .int .i64 b, .bool rc, .string nm, ya, .slice al ls.length cap] rfl rfl ?c1 ?c2 ?c3 ?c4 ?c5 ?_)
      | fail)
    case c1 =>
      intro j u hj
      match j, hj with
      | 0, hj => simp at hj; subst hj; simp [Addr.add]
      | 1, hj => simp at hj; subst hj; simp [Addr.add]
      | 2, hj => simp at hj; subst hj; simp [Addr.add]
      | 3, hj => simp at hj; subst hj; simp [Addr.add]
      | 4, hj => simp at hj; subst hj; simp [Addr.add]
      | 5, hj => simp at hj; subst hj; simp [Addr.add]
      | 6, hj => simp at hj; subst hj; simp [Addr.add]
    case c2 =>
      intro u hu
      simp only [List.mem_cons, List.not_mem_nil, or_false] at hu
      rcases hu with rfl | rfl | rfl | rfl | rfl | rfl | rfl
      · rfl
      · rfl
      · rfl
      · rfl
      · rfl
      · exact o5
      · rfl
    case c3 => unfold maxLen; omega
    case c4 => omega
    case c5 => simp; omega
    intro s1 w1 hown1 hgrow _ hat
    have R1 : AllR w0 w w.heap.size s (.slice al ls.length cap) ls (xs ++ cellsL (pre (oldGh w0) (.mk k' sp rc' nm' ps ls) (eV k a b rc nm ya (.slice al ls.length cap)))) (n + (Scope.allE (.mk k' sp rc' nm' ps ls)).length) 0 s1 w1 := by
      have G1 := ((Gr.alloc w (.cells #[.int .u8 k, .int .i64 a, .int .i64 b, .bool rc, .string nm, ya, .slice al ls.length cap] 27) s).trans (Gr.alloc _ (.cells #[.int .u8 k, .int .i64 a, .int .i64 b, .bool rc, .string nm, ya, .slice al ls.length cap] 27) s)).trans (Gr.grown hgrow (hat.imp id fun e => by rw [e]; simp))
      have hne : some w.heap.size ≠ s.ownBlock := fun e => by have := (HO.out.lt _ e.symm).2; omega
      refine ⟨Nat.zero_le _, ⟨n + 1, _, hown1, ?_, ?_⟩, G1, ?_, ?_⟩
      · rw [List.append_assoc]
        congr 1
      · simp only [Scope.allE, List.length_cons, List.drop_zero]; omega
      · rw [cell_congr (hgrow.block w.heap.size (by simp; omega) hne)]
        rw [World.cell?_alloc_past _ _ _ (by simp), World.cell?_alloc_at _ _ _ _ rfl]; rfl
      · rcases hat with e | e
        · rw [e]; exact hne
        · rw [e]; intro q; simp at q; omega
    clear hown1 hgrow hat hown'
    go_wp2_with fail
    generalize hT : xs ++ cellsL (pre (oldGh w0) (.mk k' sp rc' nm' ps ls) (eV k a b rc nm ya (.slice al ls.length cap))) = TOT at *
    have HT := Lib.hid hT
    clear hT
    go_loopw [0, 5] (fun s' i wr => ∃ j : Nat, i = .int .i64 j ∧ AllR w0 w w.heap.size s (.slice al ls.length cap) ls TOT (n + (Scope.allE (.mk k' sp rc' nm' ps ls)).length) j s' wr) (fun _ i _ => ls.length - (intOf i).toNat)
    case atStart => exact ⟨0, rfl, R1⟩
    case round =>
      obtain ⟨j, rfl, hR⟩ := hrel
      clear R1
      have hB3 := hR.cell
      by_cases hlt : j < ls.length
      · obtain ⟨blk, o, cap', v1, k1, a1, b1, rc1, nm1, ya1, yb1, e1, hX, hk, hRv, f0, f1, f2, f3, f4, f5, f6, _, _⟩ := HK.out hlt
        have hBr : Below w0.heap.size w0 wr := hR.gr.below HB.out HO.out hsz
        have lw := (old_below hBr).F
        have c0 : wr.cell? ⟨blk, o + j * 7, none⟩ = _ := lw _ _ _ f0
        have c1 : wr.cell? ⟨blk, o + j * 7 + 1, none⟩ = _ := lw _ _ _ f1
        have c2 : wr.cell? ⟨blk, o + j * 7 + 2, none⟩ = _ := lw _ _ _ f2
        have c3 : wr.cell? ⟨blk, o + j * 7 + 3, none⟩ = _ := lw _ _ _ f3
        have c4 : wr.cell? ⟨blk, o + j * 7 + 4, none⟩ = _ := lw _ _ _ f4
        have c5 : wr.cell? ⟨blk, o + j * 7 + 5, none⟩ = _ := lw _ _ _ f5
        have c6 : wr.cell? ⟨blk, o + j * 7 + 6, none⟩ = _ := lw _ _ _ f6
        obtain ⟨n', xs', w1, w2, w3⟩ := hR.own
        have HD : Hid (ls.drop j = ls[j] :: ls.drop (j + 1)) := List.drop_eq_getElem_cons hlt
        have HS : Hid (xs' ++ (cellsL (pre (oldGh w0) ls[j] (kidV (oldGh w0) (.slice al ls.length cap) j)) ++ cellsL (pres (oldGh w0) (ls.drop (j + 1)) (.slice al ls.length cap) (j + 1))) = TOT) := Lib.hid (by
          rw [← w2, HD.out, pres, cellsL_append])
        have HN : Hid (n' + ((Scope.allE ls[j]).length + (allEs (ls.drop (j + 1))).length) = n + (Scope.allE (.mk k' sp rc' nm' ps ls)).length) := Lib.hid (by
          rw [← w3, HD.out, allEs, List.length_append])
        have hn2 : n' + (Scope.allE ls[j]).length ≤ 100000 := by have := HN.out; omega
        rw [hk] at HS
        have HR : Hid (AllR w0 w w.heap.size s (.slice al ls.length cap) ls TOT (n + (Scope.allE (.mk k' sp rc' nm' ps ls)).length) j u0 wr) := hR
        have HX : Hid (VM.R (oldGh w0) v1 (eV k1 a1 b1 rc1 nm1 ya1 yb1)) := hRv
        have HBr : Hid (Below w0.heap.size w0 wr) := hBr
        clear hk f0 f1 f2 f3 f4 f5 f6 lw w2 w3 hRv hBr hR
        cases e1
        go_wp2_with fail
        refine (IH.out ls[j] (List.getElem_mem hlt) v1 k1 a1 b1 rc1 nm1 ya1 yb1 u0 n' xs' wr hX HX.out HBr.out w1 hn2).mono ?_
        rintro e w4 ⟨s2, rfl, own2, gr2⟩
        go_wp2_with fail
        go_roundw
        case rel =>
          refine ⟨j + 1, by go_num, by omega, ⟨_, _, own2, ?_, ?_⟩, HR.out.gr.trans gr2, gr2.cell HR.out.cell HR.out.ne, ?_⟩
          · rw [List.append_assoc]; exact HS.out
          · have := HN.out; omega
          · rcases gr2.place with e | ⟨c, e, hc⟩
            · rw [e]; exact HR.out.ne
            · rw [e]; intro q; cases q
              have := cell_lt HR.out.cell
              omega
        case measure => simp [intOf]; omega
      · obtain ⟨n', xs', w1, w2, w3⟩ := hR.own
        have hj : ls.drop j = [] := List.drop_eq_nil_iff.2 (by omega)
        rw [hj] at w2 w3
        simp only [pres, allEs, cellsL, List.flatMap_nil, List.append_nil, List.length_nil, Nat.add_zero] at w2 w3
        have HG : Hid (Gr w wr s u0) := hR.gr
        have w3 := Lib.hid w3
        clear hR hj
        subst w2
        go_wp2_with fail
        go_ret
        exact ⟨_, rfl, by rw [← w3.out, HT.out]; exact w1, HG.out⟩
end Go.Proofs.YtmnpladggilgbaaGreatDoor.Vm
