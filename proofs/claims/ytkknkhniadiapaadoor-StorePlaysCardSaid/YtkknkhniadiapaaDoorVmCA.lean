/-
  A part of the proof.
-/
import Derived.Test.YtkknkhniadiapaaDoorProg
import Derived.WalkKit
import Derived.Deep.LoopGhost
import Derived.Deep.RegionLaw
import Derived.Lib.Walk
import Derived.Sort.WalkB12
import Derived.Lib.SliceRun
import Derived.Laws.Tables
import Derived.Laws.CopyRow
import Derived.Shelf.RegionOpenPlain
import Derived.KernelRfl
namespace Go.Proofs.YtkknkhniadiapaaDoor.Vm
open Go Go.Proofs Go.Lib Go.RowKit
theorem setCells_row (b : Nat) (ty : TypeId) (fz : Nat × Nat) : ∀ (vs : List Value) (o : Nat) (cur : Array Value) (w : World), w.heap[b]? = some (.cells cur ty fz) → o + vs.length ≤ cur.size →
    w.setCells b o vs = w.setRow b (cur.toList.take o ++ vs ++ cur.toList.drop (o + vs.length)).toArray
  | [], o, cur, w, hg, _ => by
    simp only [World.setCells, List.append_nil, List.length_nil, Nat.add_zero, List.take_append_drop, Array.toArray_toList]
    rw [setRow_self w b cur ty fz hg]
  | v :: r, o, cur, w, hg, hl => by
    simp only [List.length_cons] at hl
    have h1 : w.setCell ⟨b, o, none⟩ v = w.setRow b (cur.setIfInBounds o v) := setCell_eq_setRow w b o cur ty fz v hg
    have ih := setCells_row b ty fz r (o + 1) (cur.setIfInBounds o v) (w.setRow b (cur.setIfInBounds o v)) (setRow_heap w b cur _ ty _ hg) (by simp; omega)
    rw [World.setCells, h1, ih, setRow_setRow]
    congr 2
    apply List.ext_getElem?
    intro t
    simp only [List.length_cons]
    by_cases c1 : t < o
    · rw [List.append_assoc, List.append_assoc, List.getElem?_append_left (by simp; omega), List.getElem?_append_left (by simp; omega)]
      simp only [List.getElem?_take, Array.getElem?_toList, Array.getElem?_setIfInBounds]
      rw [if_pos (by omega), if_pos c1, if_neg (by omega)]
    · by_cases c2 : t = o
      · subst c2
        rw [List.append_assoc, List.append_assoc, List.getElem?_append_left (by simp; omega), List.getElem?_append_right (by simp; omega)]
        simp only [List.getElem?_take, Array.getElem?_toList, Array.getElem?_setIfInBounds, List.length_take, Array.length_toList]
        rw [if_pos (by omega), if_true, if_pos (by omega), show t - min t cur.size = 0 by omega]
        rfl
      · by_cases c3 : t < o + 1 + r.length
        · rw [List.getElem?_append_left (by simp; omega), List.getElem?_append_right (by simp; omega), List.getElem?_append_left (by simp; omega), List.getElem?_append_right (by simp; omega)]
          simp only [List.length_take, Array.length_toList, Array.size_setIfInBounds]
          rw [show t - min o cur.size = (t - min (o + 1) cur.size) + 1 by omega, List.getElem?_cons_succ]
        · rw [List.getElem?_append_right (by simp; omega), List.getElem?_append_right (by simp; omega)]
          simp only [List.length_append, List.length_take, Array.length_toList, Array.size_setIfInBounds, List.length_cons, List.getElem?_drop, Array.getElem?_toList, Array.getElem?_setIfInBounds]
          rw [if_neg (by omega)]
          congr 1; omega
theorem info80 : (Tryd.prog.info? 72).map (·.size) = some 18 := by kernel_rfl
theorem cell_row {w : World} {b : Nat} {cur : Array Value} {ty : TypeId} {fz : Nat × Nat} (h : w.heap[b]? = some (.cells cur ty fz)) (o : Nat) : w.cell? ⟨b, o, none⟩ = cur[o]? := by
  simp [World.cell?, h]
theorem frz_row {w : World} {b : Nat} {cur : Array Value} {ty : TypeId} (h : w.heap[b]? = some (.cells cur ty (0, 0))) (o : Nat) : w.frozen? ⟨b, o, none⟩ = false := by
  simp [World.frozen?, h]
theorem run_clear (w : World) (ty : TypeId) (zs : List Value) (hz : ∀ w, (zeroValue 72).run Tryd.prog w = .ok (.agg zs.toArray) w) (hzl : zs.length = 18) (h1 : ∀ v ∈ zs, v.oneCell' = true) (b o n c : Nat) (hn : 0 < n) (cur : Array Value) (hg : w.heap[b]? = some (.cells cur 72 (0, 0))) (hl : o + n * 18 ≤ cur.size) :
    ∃ vs : List Value, vs.length = n * 18 ∧ (Builtin.clear_ #[47] ty #[.slice (some ⟨b, o, none⟩) n c]).run Tryd.prog w = .ok (.tuple #[]) (w.setCells b o vs) := by
  have hlen : (Builtin.zeroCells zs.toArray n).toList.length = n * 18 := by
    simp [Builtin.zeroCells, hzl]
  refine ⟨(Builtin.zeroCells zs.toArray n).toList, hlen, ?_⟩
  have hst := run_storeCells_cells (P := Tryd.prog) b o (Builtin.zeroCells zs.toArray n).toList 0 w
    (fun j hj => by rw [cell_row hg]; rw [hlen] at hj; rw [Array.getElem?_eq_getElem (by omega)]; rfl) (fun j hj => frz_row hg _) (fun v hv => by
      have : v ∈ zs := by
        simp only [Builtin.zeroCells, Array.toList_map, List.mem_map] at hv
        obtain ⟨i, _, rfl⟩ := hv
        have hi : i % zs.toArray.size < zs.toArray.size := Nat.mod_lt _ (by simp [hzl])
        rw [getElem!_pos zs.toArray _ hi]
        exact Array.mem_toList_iff.2 (Array.getElem_mem hi)
      exact h1 v this)
  simp only [Nat.add_zero] at hst
  obtain ⟨m, rfl⟩ : ∃ m, n = m + 1 := ⟨n - 1, by omega⟩
  have hc : (Value.agg zs.toArray).cells = zs.toArray := rfl
  simp [Builtin.clear_, run_underlying Tryd.underlying47, hz, hc, hst]
set_option maxHeartbeats 4000000 in
set_option maxRecDepth 1000000 in
theorem run_delete (b cap n i j : Nat) (cur : Array Value) (w : World) (hg : w.heap[b]? = some (.cells cur 72 (0, 0))) (hsz : cur.size = cap * 18) (hcap : n ≤ cap) (hlt : i < j) (hj : j ≤ n) (hone : ∀ v ∈ cur.toList.take (n * 18), v.oneCell' = true) :
    Calls Tryd.prog 33 #[.slice (some ⟨b, 0, none⟩) n cap, .int .i64 (i : Int), .int .i64 (j : Int)] w fun x w' => x = .returned (.slice (some ⟨b, 0, none⟩) (n - (j - i)) cap) ∧ ∃ rest : List Value, (i * 18 + (n * 18 - j * 18)) + rest.length = cap * 18 ∧ w' = w.drew.setRow b (cur.toList.take (i * 18) ++ (cur.toList.take (n * 18)).drop (j * 18) ++ rest).toArray := by
  obtain ⟨i0, hi0, hz1⟩ := Option.map_eq_some_iff.1 info80
  obtain ⟨news, hnews⟩ : ∃ news, news = (cur.toList.take (n * 18)).drop (j * 18) := ⟨_, rfl⟩
  have hlen : news.length = (n - j) * 18 := by rw [hnews, List.length_drop, List.length_take, Array.length_toList, Nat.sub_mul]; omega
  have hgd : w.drew.heap[b]? = some (.cells cur 72 (0, 0)) := hg
  obtain ⟨A, hA, hsrc⟩ : ∃ A : Addr, (if cap = j then some (⟨b, 0, none⟩ : Addr) else some ⟨b, j * 18, none⟩) = some A ∧ Hid (∀ t u, news[t]? = some u → w.drew.cell? (A.add t) = some u) := by
    by_cases h : cap = j
    · refine ⟨⟨b, 0, none⟩, by simp [h], fun t u hu => ?_⟩
      have h0 : news.length = 0 := by rw [hlen]; omega
      rw [List.length_eq_zero_iff.1 h0] at hu
      simp at hu
    · refine ⟨⟨b, j * 18, none⟩, by simp [h], fun t u hu => ?_⟩
      rw [hnews, List.getElem?_drop, List.getElem?_take] at hu
      rw [Addr.add_lit, cell_row hgd]
      split at hu
      · rw [← Array.getElem?_toList]; exact hu
      · cases hu
  have s1 : Hid (news.length = (n - j) * 18) := hlen
  have s2 : Hid (∀ u ∈ news, u.oneCell' = true) := fun u hu => hone u (by rw [hnews] at hu; exact List.mem_of_mem_drop hu)
  have hjn : j * 18 ≤ n * 18 := by omega
  have s3 : Hid (∀ t, t < news.length → (w.drew.cell? ⟨b, 0 + i * 18 + t, none⟩).isSome = true ∧ w.drew.frozen? ⟨b, 0 + i * 18 + t, none⟩ = false) := by
    intro t ht
    rw [hlen] at ht
    refine ⟨?_, frz_row hgd _⟩
    rw [cell_row hgd, Array.getElem?_eq_getElem (by rw [hsz]; omega)]; rfl
  obtain ⟨W1, hW1⟩ : ∃ W1, W1 = w.drew.setCells b (0 + i * 18) news := ⟨_, rfl⟩
  have hW1r : W1 = w.drew.setRow b (cur.toList.take (i * 18) ++ news ++ cur.toList.drop (i * 18 + news.length)).toArray := by
    rw [hW1, Nat.zero_add, setCells_row b 72 (0, 0) news (i * 18) cur w.drew hgd (by rw [hlen, hsz]; omega)]
  have hg1 : W1.heap[b]? = some (.cells (cur.toList.take (i * 18) ++ news ++ cur.toList.drop (i * 18 + news.length)).toArray 72 (0, 0)) := by
    rw [hW1r]; exact setRow_heap _ _ _ _ _ _ hgd
  have hsz1 : (cur.toList.take (i * 18) ++ news ++ cur.toList.drop (i * 18 + news.length)).toArray.size = cap * 18 := by
    simp only [List.size_toArray, List.length_append, List.length_take, List.length_drop, Array.length_toList, hlen, hsz]; omega
  obtain ⟨zs, hzs⟩ : ∃ zs : List Value, zs = [Value.string { data := #[] }, Value.int IntKind.i64 0, Value.pointer none, Value.int IntKind.i64 0, Value.pointer none, Value.int IntKind.i64 0, Value.pointer none, Value.int IntKind.i64 0, Value.pointer none, Value.int IntKind.i64 0, Value.pointer none, Value.int IntKind.i64 0, Value.pointer none, Value.int IntKind.i64 0, Value.pointer none, Value.int IntKind.i64 0, Value.pointer none, Value.int IntKind.i64 0] := ⟨_, rfl⟩
  obtain ⟨vs, hvl, hclr⟩ : ∃ vs : List Value, vs.length = (n - (i + (n - j))) * 18 ∧ ∀ ty, (Builtin.clear_ #[47] ty #[.slice (some ⟨b, (i + (n - j)) * 18, none⟩) (n - (i + (n - j))) (cap - (i + (n - j)))]).run Tryd.prog W1 = .ok (.tuple #[]) (W1.setCells b ((i + (n - j)) * 18) vs) := by
    obtain ⟨vs, h1, h2⟩ := run_clear W1 0 zs (by rw [hzs]; exact Tryd.zeroValue72) (by rw [hzs]; rfl) (by
      rw [hzs]; intro v hv
      simp only [List.mem_cons, List.not_mem_nil, or_false] at hv
      rcases hv with rfl | rfl | rfl | rfl | rfl | rfl | rfl | rfl | rfl | rfl | rfl | rfl | rfl | rfl | rfl | rfl | rfl | rfl <;> rfl) b ((i + (n - j)) * 18) (n - (i + (n - j))) (cap - (i + (n - j))) (by omega) _ hg1 (by rw [hsz1]; omega)
    exact ⟨vs, h1, fun ty => h2⟩
  have X : Aside (W1 = w.drew.setRow b (cur.toList.take (i * 18) ++ news ++ cur.toList.drop (i * 18 + news.length)).toArray) := hW1r
  have Y : Aside (W1.heap[b]? = some (.cells (cur.toList.take (i * 18) ++ news ++ cur.toList.drop (i * 18 + news.length)).toArray 72 (0, 0))) := hg1
  have N : Aside (news = (cur.toList.take (n * 18)).drop (j * 18)) := hnews
  have S1 : Aside ((cur.toList.take (i * 18) ++ news ++ cur.toList.drop (i * 18 + news.length)).toArray.size = cap * 18) := hsz1
  have V : Aside (vs.length = (n - (i + (n - j))) * 18) := hvl
  have L0 : Aside (news.length = (n - j) * 18) := hlen
  have Z0 : Aside (cur.size = cap * 18) := hsz
  have hW : Hid (W1 = w.drew.setCells b (0 + i * 18) news) := hW1
  have mixed : Tryd.prog.follows .mixedOrders = true := by kernel_rfl
  have hic : i ≤ cap := by omega
  have hjc : j ≤ cap := by omega
  clear hW1 hW1r hg1 hsz1 hnews hlen hvl hzs hone hgd hg hsz
  go_enter Tryd.func33, Tryd.ntmps33
  go_wp2_with fail
  go_region_law_o (refine step_append_room rfl (.tmp 22) (.tmp 25) 47 rfl 72 i0 18 Tryd.underlying47 hi0 hz1 b 0 i cap (by simp [Act.eval, Act.put]) A (n - j) (cap - j) news (by simp [Act.eval, Act.put]) s1.out hsrc.out s2.out (by omega) s3.out ?_; rw [← hW.out])
  go_wp2
  go_ret
  have ho : (i + (n - j)) * 18 = i * 18 + news.length := by rw [L0.out, Nat.add_mul]
  have hti : (cur.toList.take (i * 18)).length = i * 18 := by rw [List.length_take, Array.length_toList, Z0.out]; omega
  refine ⟨by rw [show n - (j - i) = i + (n - j) by omega]; rfl, vs ++ (cur.toList.take (i * 18) ++ news ++ cur.toList.drop (i * 18 + news.length)).drop (i * 18 + news.length + vs.length), ?_, ?_⟩
  · simp only [List.length_append, List.length_drop, List.length_take, Array.length_toList, L0.out, V.out, Z0.out]
    omega
  · rw [setCells_row b 72 (0, 0) vs _ _ W1 Y.out (by rw [S1.out, V.out]; omega), X.out, setRow_setRow, ho]
    congr 2
    show (cur.toList.take (i * 18) ++ news ++ cur.toList.drop (i * 18 + news.length)).take (i * 18 + news.length) ++ vs ++ _ = _
    rw [List.take_left' (by rw [List.length_append, hti]), N.out]
    simp only [List.append_assoc]
end Go.Proofs.YtkknkhniadiapaaDoor.Vm
