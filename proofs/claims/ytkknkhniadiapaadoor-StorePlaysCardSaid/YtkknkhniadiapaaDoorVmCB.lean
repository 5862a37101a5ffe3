/-
  A part of the proof.
-/
import Derived.Test.YtkknkhniadiapaaDoorVmCA
import Derived.Test.YtkknkhniadiapaaDoorVmBE
import Derived.Handy
import Derived.Deep.RegionHeld
set_option linter.unusedSimpArgs false
namespace Go.Proofs.YtkknkhniadiapaaDoor.Vm
open Go Go.Proofs Go.Lib Go.RowKit
def fdIx (nm : List UInt8) : List (List UInt8) → Nat → Int
  | [], _ => -1
  | a :: l, i => if a = nm then (i : Int) else fdIx nm l (i + 1)
structure FdR (w wr : World) : Prop where
  below : Below w.heap.size w wr
  heap : wr.heap = w.heap
theorem FdR.cell {w wr : World} (h : FdR w wr) (b o : Nat) : wr.cell? ⟨b, o, none⟩ = w.cell? ⟨b, o, none⟩ := by
  unfold World.cell?; rw [h.heap]
set_option maxHeartbeats 4000000 in
set_option maxRecDepth 1000000 in
theorem walk_find (b0 b n cap : Nat) (nm : List UInt8) (nms : List (List UInt8)) (w : World) (hs : w.cell? ⟨b0, 0, none⟩ = some (.slice (some ⟨b, 0, none⟩) n cap)) (hn : nms.length = n) (hmax : n ≤ 1000000)
    (hc : ∀ i a, nms[i]? = some a → w.cell? ⟨b, i * 2, none⟩ = some (.string ⟨a.toArray⟩)) :
    Calls Tryd.prog 34 #[.pointer (some ⟨b0, 0, none⟩), .string ⟨nm.toArray⟩] w fun x w' => x = .returned (.int .i64 (fdIx nm nms 0)) ∧ FdR w w' := by
  have HC : Hid (∀ i a, nms[i]? = some a → w.cell? ⟨b, i * 2, none⟩ = some (.string ⟨a.toArray⟩)) := hc
  clear hc
  have R1 : FdR w w := ⟨Below.refl _ _, rfl⟩
  go_enter Tryd.func34, Tryd.ntmps34
  go_wp2_with fail
  have HW : Hid (FdR w w ∧ n ≤ 1000000 ∧ nms.length = n) := ⟨R1, hmax, hn⟩
  go_loopw [5] (fun i wr => ∃ j : Nat, i = .int .i64 j ∧ j ≤ n ∧ FdR w wr ∧ fdIx nm (nms.drop j) j = fdIx nm nms 0) (fun i _ => n - (RowKit.intOf i).toNat)
  case atStart => exact ⟨0, rfl, Nat.zero_le _, R1, rfl⟩
  case round =>
    obtain ⟨j, rfl, hj, hR, hf⟩ := hrel
    have hs' := (hR.cell b0 0).trans hs
    clear R1
    have HR : Hid (FdR w wr ∧ fdIx nm (nms.drop j) j = fdIx nm nms 0) := ⟨hR, hf⟩
    by_cases hlt : j < n
    · have hl2 : j < nms.length := by rw [HW.2.2]; exact hlt
      have hc1 := (hR.cell b (j * 2)).trans (HC j nms[j] (List.getElem?_eq_getElem hl2))
      have hd : fdIx nm (nms.drop j) j = if nms[j] = nm then (j : Int) else fdIx nm (nms.drop (j + 1)) (j + 1) := by
        rw [List.drop_eq_getElem_cons hl2, fdIx]
      rw [hd] at hf
      generalize nms[j] = a at *
      have HF : Hid ((if a = nm then (j : Int) else fdIx nm (nms.drop (j + 1)) (j + 1)) = fdIx nm nms 0) := hf
      clear hf hd hl2 hR
      by_cases he : a = nm
      · subst he
        go_wp2_with fail
        go_ret
        have := HF.out
        rw [if_pos trivial] at this
        exact ⟨by rw [← this]; rfl, HR.out.1⟩
      · have hb : (a == nm) = false := beq_eq_false_iff_ne.2 he
        go_wp2_with fail
        have := HF.out
        rw [if_neg he] at this
        go_roundw
        case rel => exact ⟨j + 1, by first | rfl | go_num, hlt, HR.out.1, this⟩
        case measure =>
          show n - (((j : Int) + 1).toNat) < n - ((j : Int).toNat)
          omega
    · have hn0 : nms.drop j = [] := List.drop_eq_nil_iff.2 (by rw [HW.2.2]; omega)
      rw [hn0] at hf
      have HF : Hid (-1 = fdIx nm nms 0) := hf
      clear hf hR hn0
      go_wp2_with fail
      go_ret
      exact ⟨by rw [← HF.out]; rfl, HR.out.1⟩
set_option maxHeartbeats 4000000 in
set_option maxRecDepth 1000000 in
theorem walk_findN (b0 : Nat) (nm : List UInt8) (w : World) (hs : w.cell? ⟨b0, 0, none⟩ = some (.slice none 0 0)) :
    Calls Tryd.prog 34 #[.pointer (some ⟨b0, 0, none⟩), .string ⟨nm.toArray⟩] w fun x w' => x = .returned (.int .i64 (-1)) ∧ FdR w w' := by
  have R1 : FdR w w := ⟨Below.refl _ _, rfl⟩
  go_enter Tryd.func34, Tryd.ntmps34
  go_wp2_with fail
  have HW : Hid (FdR w w) := R1
  go_loopw [5] (fun i wr => i = .int .i64 0 ∧ FdR w wr) (fun i _ => 0)
  case atStart => exact ⟨rfl, R1⟩
  case round =>
    obtain ⟨rfl, hR⟩ := hrel
    have hs' := (hR.cell b0 0).trans hs
    have HR : Hid (FdR w wr) := hR
    clear hR R1
    go_wp2_with fail
    go_ret
    exact ⟨rfl, HR.out⟩
theorem step_app_run {P : Program} {ops : Array Oper} {o : Oper} {a : Act} {w : World} {K : Act → World → Prop} {Q : Exit → Act → World → Prop} {E : Prop}
    (hg : o.guard = none) (s x : Operand) (t : TypeId) (hop : o.op = Op.call { callee := Callee.builtin Builtin.append, args := #[s, x], argTypes := #[t, t] })
    {sv xv v : Value} {W : World} (hs : a.eval s = sv) (hx : a.eval x = xv) (hrun : (Builtin.append_ #[t, t] o.type #[sv, xv]).run P w = .ok v W) (hK : K (a.put o.dst v) W) :
    if Region.wanted o (yielded ops a.tmps) = true then Oper.wp P o a w K Q else E := by
  have hw : Region.wanted o (yielded ops a.tmps) = true := by simp [Region.wanted, hg]
  rw [if_pos hw]
  unfold Oper.wp
  simp [execOp, hop, resolve, invoke, builtin, hs, hx, hrun, Result.andThen]
  exact hK
structure ClF (b0 b n cap i : Nat) (A : Addr) (w1 : World) (b1 c1 : Nat) (W1 : World) (b2 c2 : Nat) (W2 : World) : Prop where
  ap1 : ∀ ty, (Builtin.append_ #[27, 27] ty #[.slice (some ⟨w1.heap.size, 0, none⟩) 0 0, .slice (some ⟨b, 0, none⟩) i cap]).run Tryd.prog (w1.alloc (.cells #[] 82)).drew = .ok (.slice (some ⟨b1, 0, none⟩) i c1) W1
  s2 : W1.cell? ⟨b0, 0, none⟩ = some (.slice (some ⟨b, 0, none⟩) n cap)
  ap2 : ∀ ty, (Builtin.append_ #[27, 27] ty #[.slice (some ⟨b1, 0, none⟩) i c1, .slice (some A) (n - (i + 1)) (cap - (i + 1))]).run Tryd.prog W1 = .ok (.slice (some ⟨b2, 0, none⟩) (n - 1) c2) W2
  s3 : W2.cell? ⟨b0, 0, none⟩ = some (.slice (some ⟨b, 0, none⟩) n cap)
  z3 : W2.frozen? ⟨b0, 0, none⟩ = false
set_option maxHeartbeats 4000000 in
set_option maxRecDepth 1000000 in
theorem walk_closeR (b0 b n cap : Nat) (nm : List UInt8) (w : World) (i : Nat) (hin : i + 1 ≤ n) (hmax : n ≤ 1000000) (hcap : n ≤ cap) (hs : w.cell? ⟨b0, 0, none⟩ = some (.slice (some ⟨b, 0, none⟩) n cap)) (F : Nat → Nat → World → Prop)
    (HF : Calls Tryd.prog 34 #[.pointer (some ⟨b0, 0, none⟩), .string ⟨nm.toArray⟩] w fun x w' => x = .returned (.int .i64 (i : Int)) ∧ FdR w w')
    (A : Addr) (hA : (if cap = i + 1 then some (⟨b, 0, none⟩ : Addr) else some ⟨b, (i + 1) * 2, none⟩) = some A)
    (HM : ∀ w1, FdR w w1 → ∃ b1 c1 W1 b2 c2 W2, ClF b0 b n cap i A w1 b1 c1 W1 b2 c2 W2 ∧ F b2 c2 W2) :
    Calls Tryd.prog 15 #[.pointer (some ⟨b0, 0, none⟩), .string ⟨nm.toArray⟩] w fun x w' => x = .returned (.int .i64 0) ∧ ∃ b2 c2 W2, F b2 c2 W2 ∧ w' = W2.setCell ⟨b0, 0, none⟩ (.slice (some ⟨b2, 0, none⟩) (n - 1) c2) := by
  have mixed : Tryd.prog.follows .mixedOrders = true := by kernel_rfl
  have hic : i ≤ cap := by omega
  have hjc : i + 1 ≤ cap := by omega
  have hb1 : (0 : Int) ≤ (i : Int) + 1 := by omega
  have hb2 : (i : Int) + 1 ≤ (n : Int) := by omega
  have hw1 : IntKind.i64.wrap ((i : Int) + 1) = (i : Int) + 1 := by rw [IntKind.wrap_i64]; omega
  go_enter Tryd.func15, Tryd.ntmps15
  go_wp2_with fail
  refine HF.mono ?_
  rintro e w1 ⟨rfl, hR⟩
  obtain ⟨b1, c1, W1, b2, c2, W2, ⟨hap1, hs2, hap2, hs3, hz3⟩, hF⟩ := HM w1 hR
  have hs1 := (hR.cell b0 0).trans hs
  have hs1' : (w1.alloc (.cells #[] 82)).cell? ⟨b0, 0, none⟩ = some (.slice (some ⟨b, 0, none⟩) n cap) := by
    rw [World.cell?_alloc_some _ _ _ (by rw [hs1]; rfl)]; exact hs1
  have HX : Hid (F b2 c2 W2) := hF
  clear hR HM hs hF
  go_wp2_with fail
  go_region_law (first
    | (refine step_app_run rfl (.tmp 12) (.tmp 18) 27 rfl (by rfl) (by rfl) (hap1 _) ?_)
    | (refine step_app_run rfl (.tmp 19) (.tmp 26) 27 rfl (by rfl) (by rfl) (hap2 _) ?_))
  all_goals go_wp2
  all_goals go_ret
  all_goals exact ⟨rfl, b2, c2, W2, HX.out, rfl⟩
set_option maxHeartbeats 4000000 in
set_option maxRecDepth 1000000 in
theorem walk_closeO (b0 : Nat) (nm : List UInt8) (w : World)
    (HF : Calls Tryd.prog 34 #[.pointer (some ⟨b0, 0, none⟩), .string ⟨nm.toArray⟩] w fun x w' => x = .returned (.int .i64 (-1)) ∧ FdR w w') :
    Calls Tryd.prog 15 #[.pointer (some ⟨b0, 0, none⟩), .string ⟨nm.toArray⟩] w fun x w' => x = .returned (.int .i64 5) ∧ Below w.heap.size w w' := by
  go_enter Tryd.func15, Tryd.ntmps15
  go_wp2_with fail
  refine HF.mono ?_
  rintro e w1 ⟨rfl, hR⟩
  have HB : Hid (Below w.heap.size w w1) := hR.below
  clear hR
  go_wp2_with fail
  go_ret
  exact ⟨rfl, HB.out⟩
set_option maxHeartbeats 4000000 in
set_option maxRecDepth 1000000 in
theorem walk_copyS (b0 : Nat) (A : Option Addr) (n cap : Nat) (w W1 W2 : World) (hs : w.cell? ⟨b0, 0, none⟩ = some (.slice A n cap)) (hs1 : W1.cell? ⟨b0, 0, none⟩ = some (.slice A n cap))
    (hmk : (Instr.makeSlice 47 (.int .i64 (n : Int)) (.int .i64 (n : Int))).run Tryd.prog w = .ok (.slice (some ⟨w.heap.size, 0, none⟩) n n) W1)
    (hcp : ∀ ty, (Builtin.copy_ #[47, 47] ty #[.slice (some ⟨w.heap.size, 0, none⟩) n n, .slice A n cap]).run Tryd.prog W1 = .ok (goInt n) W2) :
    Calls Tryd.prog 8 #[.pointer (some ⟨b0, 0, none⟩)] w fun x w' => x = .returned (.pointer (some ⟨W2.heap.size, 0, none⟩)) ∧ w' = W2.alloc (.cells #[.slice (some ⟨w.heap.size, 0, none⟩) n n] 49) := by
  go_enter Tryd.func8, Tryd.ntmps8
  go_wp2_with fail
  go_ret
  exact ⟨rfl, rfl⟩
theorem infoD : (Tryd.prog.info? 72).map (fun i => (i.size, i.bytes)) = some (18, 152) := by kernel_rfl
theorem run_copyD (w : World) (A : Addr) (n cap : Nat) (vals : List Value) (hv : vals.length = n * 18) (hsrc : ∀ j v, vals[j]? = some v → w.cell? (A.add j) = some v) (h1 : ∀ v ∈ vals, v.oneCell' = true)
    (g : Nat) (cur : Array Value) (hg : w.heap[g]? = some (.cells cur 72 (0, 0))) (hc : cur.size = n * 18) (ty : TypeId) :
    (Builtin.copy_ #[47, 47] ty #[.slice (some ⟨g, 0, none⟩) n n, .slice (some A) n cap]).run Tryd.prog w = .ok (goInt n) (w.setRow g vals.toArray) := by
  obtain ⟨i, hi, hz⟩ := Option.map_eq_some_iff.1 infoD
  simp only [Prod.mk.injEq] at hz
  obtain ⟨z1, z2⟩ := hz
  have hst := run_storeCells_at Tryd.prog g 0 72 vals 0 cur w hg (by omega) h1
  have hf := run_firstCells_some (P := Tryd.prog) w 18 n A n cap vals hv hsrc
  have hw : (cur.toList.take (0 + 0) ++ vals ++ cur.toList.drop (0 + 0 + vals.length)).toArray = vals.toArray := by
    rw [List.drop_eq_nil_of_le (by rw [Array.length_toList]; omega)]; simp
  rw [hw] at hst
  simp [Builtin.copy_, VM.und_run Tryd.underlying47, Builtin.lenOf, sizeOf, typeInfo, hi, z1, hf, hst]
theorem infoR : (Tryd.prog.info? 82).map (fun i => (i.size, i.bytes, i.zero.isSome)) = some (2, 40, true) := by kernel_rfl
theorem infoR2 : (Tryd.prog.info? 82).bind (fun i => i.zero.map fun z => z.cells.size) = some 2 := by kernel_rfl
theorem infoZ : (Tryd.prog.info? 72).map (fun i => (i.size, i.bytes, i.zero.isSome)) = some (18, 152, true) := by kernel_rfl
theorem src_at {w : World} {ad : Addr} {n c size : Nat} {vals : List Value} (hl : vals.length = n * size) (hsrc : ∀ j v, vals[j]? = some v → w.cell? (ad.add j) = some v) : VM.Src Tryd.prog size (.slice (some ad) n c) n vals w := by
  have h : ∀ w' : World, (∀ a, w'.cell? a = w.cell? a) → (Builtin.firstCells size n (.slice (some ad) n c)).run Tryd.prog w' = .ok vals.toArray w' := fun w' hw' =>
    run_firstCells_some (P := Tryd.prog) w' size n ad n c vals hl (fun j v hv => by rw [hw']; exact hsrc j v hv)
  exact ⟨by simp [Builtin.lenOf], h w fun _ => rfl, h w.drew fun _ => rfl, hl⟩
theorem run_app (base : Nat) (W : World) (bb k c m : Nat) (cur : Array Value) (hg : W.heap[bb]? = some (.cells cur 82 (0, 0))) (hsz : cur.size = c * 2) (hk : k ≤ c) (hb : base ≤ bb) (hbs : base ≤ W.heap.size) (ad : Addr) (sc : Nat) (vals : List Value) (hl : vals.length = m * 2)
    (hsrc : ∀ j v, vals[j]? = some v → W.cell? (ad.add j) = some v) (h1 : ∀ v ∈ vals, v.oneCell' = true) (hmax : k + m ≤ 1000000) :
    ∃ b' c' W' rest, (∀ ty, (Builtin.append_ #[27, 27] ty #[.slice (some ⟨bb, 0, none⟩) k c, .slice (some ad) m sc]).run Tryd.prog W = .ok (.slice (some ⟨b', 0, none⟩) (k + m) c') W') ∧ Below base W W' ∧ base ≤ b' ∧ k + m ≤ c' ∧
      W'.heap[b']? = some (.cells ((cur.toList.take (k * 2) ++ vals).toArray ++ (rest : List Value).toArray) 82 (0, 0)) ∧ (k + m) * 2 + rest.length = c' * 2 := by
  obtain ⟨i, hi, hz⟩ := Option.map_eq_some_iff.1 infoR
  simp only [Prod.mk.injEq] at hz
  obtain ⟨z1, z2, z3⟩ := hz
  obtain ⟨z, hz⟩ := Option.isSome_iff_exists.1 z3
  have hkl : (cur.toList.take (k * 2)).length = k * 2 := by rw [List.length_take, Array.length_toList, hsz]; omega
  by_cases hr : k + m ≤ c
  · have hcell : ∀ j, j < vals.length → (W.cell? ⟨bb, 0 + k * i.size + j, none⟩).isSome = true := fun j hj => by
      rw [cell_row hg, z1, Array.getElem?_eq_getElem (by omega)]; rfl
    have hw := setCells_row bb 82 (0, 0) vals (k * 2) cur W hg (by omega)
    refine ⟨bb, c, W.setCells bb (0 + k * i.size) vals, cur.toList.drop (k * 2 + vals.length), fun ty => run_append_room_cells (P := Tryd.prog) W 27 ty 82 i Tryd.underlying27 hi bb 0 k c ad m sc vals (by rw [z1]; exact hl) hsrc h1 hr hcell (fun j _ => frz_row hg _), ?_, hb, hr, ?_, ?_⟩
    · rw [z1, Nat.zero_add, hw]
      exact ⟨rfl, rfl, rfl, by rw [VM.setRow_size]; exact Nat.le_refl _, fun b' hb' => VM.setRow_ne _ _ _ (by omega)⟩
    · rw [z1, Nat.zero_add, hw, setRow_heap _ _ _ _ _ _ hg]
      simp [List.append_assoc]
    · rw [List.length_drop, Array.length_toList, hsz, hl]; omega
  · have hs : VM.Src Tryd.prog i.size (.slice (some ⟨bb, 0, none⟩) k c) k (cur.toList.take (k * 2)) W := by
      rw [z1]
      refine src_at hkl fun j v hv => ?_
      rw [List.getElem?_take] at hv
      split at hv
      · rw [Addr.add_lit, Nat.zero_add, cell_row hg, ← Array.getElem?_toList]; exact hv
      · cases hv
    have hx : VM.Src Tryd.prog i.size (.slice (some ad) m sc) m vals W := by rw [z1]; exact src_at hl hsrc
    have hfit : Builtin.nextslicecap (k + m) c * i.bytes ≤ 281474976710656 := growslice_fits (by omega) (by rw [z2]; omega)
    have hrun := fun ty => VM.run_grow (ty := ty) Tryd.underlying27 Tryd.underlying27 (fun k h => by cases h) hi hz hs hx (by omega) (by omega) hfit
    have hge : k + m ≤ grownCap W (k + m) c 82 := VM.grownCap_ge
    have hzc : z.cells.size = 2 := by
      have := infoR2
      rw [hi] at this
      simp only [Option.bind_some, hz, Option.map_some, Option.some.injEq] at this
      exact this
    generalize grownCap W (k + m) c 82 = cap at hrun hge
    refine ⟨W.heap.size, cap, _, (Builtin.zeroCells z.cells (cap - (k + m))).toList, hrun, ⟨rfl, rfl, rfl, by simp, fun b' hb' => ?_⟩, hbs, hge, ?_, ?_⟩
    · exact VM.World.heap_alloc_lt (w := W.drew) (by show b' < W.heap.size; omega)
    · refine (VM.World.heap_alloc_new (w := W.drew)).trans ?_
      simp
    · rw [VM.zeroCells_length, hzc]; omega
theorem run_copyS (b0 : Nat) (B : Option Addr) (n cap : Nat) (vals : List Value) (w : World) (hc : w.cell? ⟨b0, 0, none⟩ = some (.slice B n cap)) (hl : vals.length = n * 18) (hn : n ≤ 1000000) (hB0 : B = none → n = 0 ∧ cap = 0)
    (hB1 : ∀ a, B = some a → ∀ j v, vals[j]? = some v → w.cell? (a.add j) = some v) (h1 : ∀ v ∈ vals, v.oneCell' = true) :
    Calls Tryd.prog 8 #[.pointer (some ⟨b0, 0, none⟩)] w fun x w' => ∃ W, Below w.heap.size w W ∧ W.heap.size = w.heap.size + 1 ∧ W.heap[w.heap.size]? = some (.cells vals.toArray 72 (0, 0)) ∧ x = .returned (.pointer (some ⟨w.heap.size + 1, 0, none⟩)) ∧
      w' = W.alloc (.cells #[.slice (some ⟨w.heap.size, 0, none⟩) n n] 49) := by
  obtain ⟨i, hi, hz⟩ := Option.map_eq_some_iff.1 infoZ
  simp only [Prod.mk.injEq] at hz
  obtain ⟨z1, z2, z3⟩ := hz
  obtain ⟨z, hz⟩ := Option.isSome_iff_exists.1 z3
  have hmk := run_make (P := Tryd.prog) w 47 72 i z Tryd.underlying47 hi hz .i64 .i64 (n : Int) (n : Int) (by omega) (Int.le_refl _) (by rw [z2]; omega) (by omega)
  simp only [Int.toNat_natCast] at hmk
  have hsz : (madeCells z.cells (n * i.size)).size = n * 18 := by rw [size_madeCells, z1]
  generalize madeCells z.cells (n * i.size) = cur at hmk hsz
  have hlt : b0 < w.heap.size := by
    have := World.block_lt_of_cell? w _ hc
    exact this
  have hB1' : ∀ a, B = some a → ∀ j v, vals[j]? = some v → (w.alloc (.cells cur 72)).cell? (a.add j) = some v := fun a ha j v hv => by
    have := hB1 a ha j v hv
    rw [World.cell?_alloc_some _ _ _ (by rw [this]; rfl)]; exact this
  have hs1 : (w.alloc (.cells cur 72)).cell? ⟨b0, 0, none⟩ = some (.slice B n cap) := by
    rw [World.cell?_alloc_some _ _ _ (by rw [hc]; rfl)]; exact hc
  have hg : (w.alloc (.cells cur 72)).heap[w.heap.size]? = some (.cells cur 72 (0, 0)) := VM.World.heap_alloc_new
  have hcp : ∃ W2, (∀ ty, (Builtin.copy_ #[47, 47] ty #[.slice (some ⟨w.heap.size, 0, none⟩) n n, .slice B n cap]).run Tryd.prog (w.alloc (.cells cur 72)) = .ok (goInt n) W2) ∧ W2 = (w.alloc (.cells cur 72)).setRow w.heap.size vals.toArray := by
    cases B with
    | none =>
      obtain ⟨rfl, rfl⟩ := hB0 rfl
      have hv : vals = [] := List.eq_nil_of_length_eq_zero (by omega)
      have hcur : cur = #[] := Array.eq_empty_of_size_eq_zero (by omega)
      subst hv hcur
      refine ⟨_, fun ty => run_copy_nil (P := Tryd.prog) _ 47 47 ty 72 _ 0 0 Tryd.underlying47 (by rw [hi]; rfl), ?_⟩
      exact (setRow_self _ _ _ _ _ hg).symm
    | some a => exact ⟨_, fun ty => run_copyD _ a n cap vals hl (hB1' a rfl) h1 w.heap.size cur hg hsz ty, rfl⟩
  obtain ⟨W2, hcp, rfl⟩ := hcp
  refine (walk_copyS b0 B n cap w _ _ hc hs1 hmk hcp).mono ?_
  rintro x w' ⟨rfl, rfl⟩
  have hs : ((w.alloc (.cells cur 72)).setRow w.heap.size vals.toArray).heap.size = w.heap.size + 1 := by rw [VM.setRow_size]; simp
  refine ⟨(w.alloc (.cells cur 72)).setRow w.heap.size vals.toArray, ⟨rfl, rfl, rfl, by rw [hs]; omega, fun b hb => ?_⟩, hs, setRow_heap _ _ _ _ _ _ hg, by rw [hs], rfl⟩
  rw [VM.setRow_ne _ _ _ (by omega)]
  exact VM.World.heap_alloc_lt hb
theorem fdIx_O (nm : List UInt8) : ∀ (l : List (List UInt8)) (i : Nat), fdIx nm l i = match VM.findO nm l i with | none => -1 | some k => (k : Int)
  | [], _ => rfl
  | a :: l, i => by
    unfold fdIx VM.findO
    split
    · rfl
    · exact fdIx_O nm l (i + 1)
theorem run_closeN (b0 : Nat) (nm : List UInt8) (w : World) (hs : w.cell? ⟨b0, 0, none⟩ = some (.slice none 0 0)) : Calls Tryd.prog 15 #[.pointer (some ⟨b0, 0, none⟩), .string ⟨nm.toArray⟩] w fun x w' => x = .returned (.int .i64 5) ∧ Below w.heap.size w w' :=
  walk_closeO b0 nm w (walk_findN b0 nm w hs)
theorem run_closeC (b0 b n cap : Nat) (nm : List UInt8) (nms : List (List UInt8)) (vals : List Value) (w : World) (hs : w.cell? ⟨b0, 0, none⟩ = some (.slice (some ⟨b, 0, none⟩) n cap)) (hz0 : w.frozen? ⟨b0, 0, none⟩ = false) (hn : nms.length = n) (hmax : n ≤ 1000000) (hcap : n ≤ cap) (hl : vals.length = n * 2)
    (hsrc : ∀ j v, vals[j]? = some v → w.cell? ⟨b, j, none⟩ = some v) (h1 : ∀ v ∈ vals, v.oneCell' = true) (hc : ∀ i a, nms[i]? = some a → vals[i * 2]? = some (.string ⟨a.toArray⟩)) :
    Calls Tryd.prog 15 #[.pointer (some ⟨b0, 0, none⟩), .string ⟨nm.toArray⟩] w fun x w' => match VM.findO nm nms 0 with
      | none => x = .returned (.int .i64 5) ∧ Below w.heap.size w w'
      | some i => x = .returned (.int .i64 0) ∧ ∃ (W : World) (b2 c2 : Nat) (rest : List Value), Below w.heap.size w W ∧ w.heap.size ≤ b2 ∧ n - 1 ≤ c2 ∧ W.heap[b2]? = some (.cells ((vals.take (i * 2) ++ vals.drop ((i + 1) * 2)).toArray ++ rest.toArray) 82 (0, 0)) ∧
          (n - 1) * 2 + rest.length = c2 * 2 ∧ w' = W.setCell ⟨b0, 0, none⟩ (.slice (some ⟨b2, 0, none⟩) (n - 1) c2) := by
  have hf := walk_find b0 b n cap nm nms w hs hn hmax (fun i a h => hsrc _ _ (hc i a h))
  rw [fdIx_O] at hf
  cases ho : VM.findO nm nms 0 with
  | none =>
    rw [ho] at hf
    exact walk_closeO b0 nm w hf
  | some i =>
    rw [ho] at hf
    have hin : i + 1 ≤ n := by have := (VM.findO_lt ho).2; omega
    have hb0 : b0 < w.heap.size := World.block_lt_of_cell? w _ hs
    obtain ⟨A, hA, hsA⟩ : ∃ A : Addr, (if cap = i + 1 then some (⟨b, 0, none⟩ : Addr) else some ⟨b, (i + 1) * 2, none⟩) = some A ∧ ∀ t u, (vals.drop ((i + 1) * 2))[t]? = some u → w.cell? (A.add t) = some u := by
      by_cases h : cap = i + 1
      · refine ⟨⟨b, 0, none⟩, by simp [h], fun t u hu => ?_⟩
        rw [List.drop_eq_nil_of_le (by omega)] at hu
        simp at hu
      · refine ⟨⟨b, (i + 1) * 2, none⟩, by simp [h], fun t u hu => ?_⟩
        rw [List.getElem?_drop] at hu
        rw [Addr.add_lit]
        exact hsrc _ _ hu
    refine (walk_closeR b0 b n cap nm w i hin hmax hcap hs (fun b2 c2 W => ∃ rest : List Value, Below w.heap.size w W ∧ w.heap.size ≤ b2 ∧ n - 1 ≤ c2 ∧ W.heap[b2]? = some (.cells ((vals.take (i * 2) ++ vals.drop ((i + 1) * 2)).toArray ++ rest.toArray) 82 (0, 0)) ∧ (n - 1) * 2 + rest.length = c2 * 2) hf A hA ?_).mono ?_
    · intro w1 hR
      have hsz1 : w1.heap.size = w.heap.size := by rw [hR.heap]
      have hW0 : Below w.heap.size w (w1.alloc (.cells #[] 82)).drew := ⟨hR.below.os, hR.below.tape, hR.below.output, by show w.heap.size ≤ (w1.alloc (.cells #[] 82)).heap.size; simp [hsz1], fun b hb => by
        show (w1.alloc (.cells #[] 82)).heap[b]? = _
        rw [VM.World.heap_alloc_lt (by omega), hR.heap]⟩
      have kc : ∀ {W : World} (a : Addr) (v : Value), Below w.heap.size w W → w.cell? a = some v → W.cell? a = some v := fun a v hB h => by
        have hlt := World.block_lt_of_cell? w _ h
        unfold World.cell? at h ⊢
        rw [hB.block a.block hlt]; exact h
      obtain ⟨b1, c1, W1, r1, a1, B1, d1, e1, g1, l1⟩ := run_app w.heap.size (w1.alloc (.cells #[] 82)).drew w1.heap.size 0 0 i #[] VM.World.heap_alloc_new rfl (Nat.le_refl _) (by omega) hW0.size ⟨b, 0, none⟩ cap (vals.take (i * 2)) (by rw [List.length_take]; omega)
        (fun j v hv => by
          rw [List.getElem?_take] at hv
          split at hv
          · rw [Addr.add_lit, Nat.zero_add]
            exact kc _ _ hW0 (hsrc _ _ hv)
          · cases hv) (fun v hv => h1 v (List.mem_of_mem_take hv)) (by omega)
      simp only [Nat.zero_add, Nat.zero_mul, List.take_zero, List.nil_append] at a1 e1 g1 l1
      have hW1 := hW0.trans B1
      obtain ⟨b2, c2, W2, r2, a2, B2, d2, e2, g2, l2⟩ := run_app w.heap.size W1 b1 i c1 (n - (i + 1)) _ g1 (by
          have : (vals.take (i * 2)).length = i * 2 := by rw [List.length_take]; omega
          rw [Array.size_append, List.size_toArray, List.size_toArray, this]; omega) e1 d1 hW1.size A (cap - (i + 1)) (vals.drop ((i + 1) * 2)) (by rw [List.length_drop]; omega)
        (fun j v hv => kc _ _ hW1 (hsA j v hv)) (fun v hv => h1 v (List.mem_of_mem_drop hv)) (by omega)
      have hW2 := hW1.trans B2
      rw [show i + (n - (i + 1)) = n - 1 by omega] at a2 e2 l2
      have ht : (((vals.take (i * 2)).toArray ++ r1.toArray).toList.take (i * 2)) = vals.take (i * 2) := by
        rw [Array.toList_append, List.take_left' (by rw [List.length_take]; omega)]
      rw [ht] at g2
      exact ⟨b1, c1, W1, b2, c2, W2, ⟨a1, kc _ _ hW1 hs, a2, kc _ _ hW2 hs, by rw [VM.frz_congr (hW2.block b0 hb0)]; exact hz0⟩, r2, hW2, d2, e2, g2, l2⟩
    · rintro x w' ⟨rfl, b2, c2, W2, ⟨rest, f1, f2, f3, f4, f5⟩, rfl⟩
      exact ⟨rfl, W2, b2, c2, rest, f1, f2, f3, f4, f5, rfl⟩
end Go.Proofs.YtkknkhniadiapaaDoor.Vm
