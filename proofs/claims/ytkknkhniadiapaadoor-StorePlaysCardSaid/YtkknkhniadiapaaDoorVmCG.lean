/-
  A part of the proof.
-/
import Derived.Test.YtkknkhniadiapaaDoorVmCE
import Derived.Test.YtkknkhniadiapaaDoorVmBJ
set_option maxRecDepth 100000
namespace Go.Proofs.YtkknkhniadiapaaDoor.Vm
open Go Go.VM Go.Proofs Go.Store
def lawS : List TypeId := [9, 3, 4, 5, 42, 44, 46, 31, 33, 22]
theorem lawS_ok : ∀ t, inS lawS t = true → okTy Tryd.prog lawS t = true := by
  intro t ht
  have : t ∈ lawS := by
    obtain ⟨u, hu, e⟩ := List.any_eq_true.1 ht
    rw [← Nat.eq_of_beq_eq_true e]; exact hu
  exact List.all_eq_true.1 (show (lawS.all fun t => okTy Tryd.prog lawS t) = true by kernel_rfl) t this
theorem av_str {n t : Nat} {cs : List AV} (hu : Tryd.prog.underlying t = some .string) (h : AvOf Tryd.prog n t cs) : ∃ s, cs = [.str s] ∧ s.length ≤ maxLen := by
  cases n with
  | zero => cases h
  | succ n => simp only [AvOf, hu] at h; exact h
theorem av_bool {n t : Nat} {cs : List AV} (hu : Tryd.prog.underlying t = some .bool) (h : AvOf Tryd.prog n t cs) : ∃ b, cs = [.bool b] := by
  cases n with
  | zero => cases h
  | succ n => simp only [AvOf, hu] at h; exact h
theorem av_int {n t : Nat} {k : IntKind} {cs : List AV} (hu : Tryd.prog.underlying t = some (.int k)) (h : AvOf Tryd.prog n t cs) : ∃ m, cs = [.int k m] ∧ k.min ≤ m ∧ m ≤ k.max := by
  cases n with
  | zero => cases h
  | succ n => simp only [AvOf, hu] at h; exact h
theorem sl_of {n t e : Nat} {cs : List AV} {Q : AV → Prop} (hu : Tryd.prog.underlying t = some (.slice e)) (h : AvOf Tryd.prog n t cs) (hQ : ∀ a, AvOf Tryd.prog (n - 1) e a → Q (mkV (isSt Tryd.prog e) a)) :
    ∃ x es, cs = [x] ∧ IsSl (Tryd.prog.cellsOf e) x es ∧ ∀ v ∈ es, Q v := by
  cases n with
  | zero => cases h
  | succ n =>
    simp only [AvOf, hu] at h
    rcases h with rfl | rfl | ⟨L, rfl, hl, hL⟩
    · exact ⟨_, [], rfl, IsSl.nils, by simp⟩
    · exact ⟨_, [], rfl, IsSl.emp, by simp⟩
    · refine ⟨_, _, rfl, IsSl.wide (by rw [List.length_map]; simpa [maxLen] using hl), fun v hv => ?_⟩
      obtain ⟨a, ha, rfl⟩ := List.mem_map.1 hv
      exact hQ a (hL a ha)
theorem pos_of {n : Nat} {cs : List AV} (h : AvOf Tryd.prog n 42 cs) : ∃ x y, cs = [.int .i64 x, .int .i64 y] := by
  cases n with
  | zero => cases h
  | succ n =>
    simp only [AvOf, Tryd.underlying42] at h
    obtain ⟨a0, b0, rfl, h0, a1, b1, rfl, h1, rfl⟩ := h
    obtain ⟨x, rfl, _⟩ := av_int Tryd.underlying3 h0
    obtain ⟨y, rfl, _⟩ := av_int Tryd.underlying3 h1
    exact ⟨x, y, rfl⟩
theorem range_of {n : Nat} {cs : List AV} (h : AvOf Tryd.prog n 44 cs) : ∃ a b c d, cs = [.int .i64 a, .int .i64 b, .int .i64 c, .int .i64 d] := by
  cases n with
  | zero => cases h
  | succ n =>
    simp only [AvOf, Tryd.underlying44] at h
    obtain ⟨a0, b0, rfl, h0, a1, b1, rfl, h1, rfl⟩ := h
    obtain ⟨x, y, rfl⟩ := pos_of h0
    obtain ⟨z, w, rfl⟩ := pos_of h1
    exact ⟨x, y, z, w, rfl⟩
theorem change_of {n : Nat} {cs : List AV} (h : AvOf Tryd.prog n 46 cs) : ∃ c : Chg, AV.agg cs = chgV c := by
  cases n with
  | zero => cases h
  | succ n =>
    simp only [AvOf, Tryd.underlying46] at h
    obtain ⟨a0, b0, rfl, h0, a1, b1, rfl, h1, a2, b2, rfl, h2, rfl⟩ := h
    obtain ⟨b, rfl⟩ := av_bool Tryd.underlying4 h0
    obtain ⟨x, y, z, w, rfl⟩ := range_of h1
    obtain ⟨s, rfl, _⟩ := av_str Tryd.underlying9 h2
    exact ⟨⟨b, x, y, z, w, s⟩, rfl⟩
theorem chgs_of : ∀ {es : List AV}, (∀ v ∈ es, ∃ c : Chg, v = chgV c) → ∃ l : List Chg, es = l.map chgV
  | [], _ => ⟨[], rfl⟩
  | v :: vs, h => by
    obtain ⟨d, rfl⟩ := h v (by simp)
    obtain ⟨ds, rfl⟩ := chgs_of (es := vs) fun u hu => h u (List.mem_cons_of_mem _ hu)
    exact ⟨d :: ds, rfl⟩
theorem chgsl_of {n : Nat} {cs : List AV} (h : AvOf Tryd.prog n 31 cs) : ∃ (x : AV) (l : List Chg), cs = [x] ∧ IsSl 6 x (l.map chgV) := by
  have hz : Tryd.prog.cellsOf 46 = 6 := by kernel_rfl
  have hst : isSt Tryd.prog 46 = true := by kernel_rfl
  obtain ⟨x, es, rfl, hx, hes⟩ := sl_of (Q := fun v => ∃ c : Chg, v = chgV c) Tryd.underlying31 h fun a ha => by
    rw [hst]
    exact change_of ha
  rw [hz] at hx
  obtain ⟨l, rfl⟩ := chgs_of hes
  exact ⟨x, l, rfl, hx⟩
theorem step_of {n : Nat} {cs : List AV} (h : AvOf Tryd.prog n 33 cs) : ∃ s : Stp, StpV s (.agg cs) ∧ 0 ≤ s.kind ∧ s.kind ≤ 255 := by
  cases n with
  | zero => cases h
  | succ n =>
    simp only [AvOf, Tryd.underlying33] at h
    obtain ⟨a0, b0, rfl, h0, a1, b1, rfl, h1, a2, b2, rfl, h2, a3, b3, rfl, h3, a4, b4, rfl, h4, rfl⟩ := h
    obtain ⟨k, rfl, hk1, hk2⟩ := av_int Tryd.underlying5 h0
    obtain ⟨nm, rfl, _⟩ := av_str Tryd.underlying9 h1
    obtain ⟨no, rfl, _⟩ := av_int Tryd.underlying3 h2
    obtain ⟨tx, rfl, _⟩ := av_str Tryd.underlying9 h3
    obtain ⟨x, l, rfl, hx⟩ := chgsl_of h4
    exact ⟨⟨k, nm, no, tx, l⟩, ⟨x, hx, rfl⟩, hk1, hk2⟩
theorem steps_of : ∀ {es : List AV}, (∀ v ∈ es, ∃ s : Stp, StpV s v ∧ 0 ≤ s.kind ∧ s.kind ≤ 255) → ∃ l, StpsV l es ∧ ∀ s ∈ l, 0 ≤ s.kind ∧ s.kind ≤ 255
  | [], _ => ⟨[], trivial, fun _ h => by cases h⟩
  | v :: vs, h => by
    obtain ⟨d, hd, hk⟩ := h v (by simp)
    obtain ⟨ds, h1, h2⟩ := steps_of (es := vs) fun u hu => h u (List.mem_cons_of_mem _ hu)
    refine ⟨d :: ds, ⟨hd, h1⟩, fun s hs => ?_⟩
    rcases List.mem_cons.1 hs with rfl | hs
    · exact hk
    · exact h2 s hs
theorem stepsl_of {n : Nat} {cs : List AV} (h : AvOf Tryd.prog n 22 cs) : ∃ (x : AV) (es : List AV) (l : List Stp), cs = [x] ∧ IsSl 5 x es ∧ StpsV l es ∧ ∀ s ∈ l, 0 ≤ s.kind ∧ s.kind ≤ 255 := by
  have hz : Tryd.prog.cellsOf 33 = 5 := by kernel_rfl
  have hst : isSt Tryd.prog 33 = true := by kernel_rfl
  obtain ⟨x, es, rfl, hx, hes⟩ := sl_of (Q := fun v => ∃ s : Stp, StpV s v ∧ 0 ≤ s.kind ∧ s.kind ≤ 255) Tryd.underlying22 h fun a ha => by
    rw [hst]
    exact step_of ha
  rw [hz] at hx
  obtain ⟨l, h1, h2⟩ := steps_of hes
  exact ⟨x, es, l, rfl, hx, h1, h2⟩
end Go.Proofs.YtkknkhniadiapaaDoor.Vm
