/-
  (A part of the proof: ScopeArg.)
-/
import Derived.Test.YtoopmjhdgkcleaaGreatDoorVmCA
import Derived.Test.YtoopmjhdgkcleaaGreatDoorVmCD
import Derived.Test.YtoopmjhdgkcleaaGreatDoorVmAA
/- Declarations as arguments. -/
set_option maxRecDepth 100000
set_option linter.unusedSimpArgs false
namespace Go.Proofs.YtoopmjhdgkcleaaGreatDoor.Vm
open Go Go.VM Go.Proofs Go.Scope

def lawS : List TypeId := [9, 5, 3, 4, 32, 101, 60, 63, 61, 65, 22]
theorem lawS_ok : ∀ t, inS lawS t = true → okTy Tryz.prog lawS t = true := by
  intro t ht
  have : t ∈ lawS := by
    obtain ⟨u, hu, e⟩ := List.any_eq_true.1 ht
    rw [← Nat.eq_of_beq_eq_true e]; exact hu
  exact List.all_eq_true.1 (show (lawS.all fun t => okTy Tryz.prog lawS t) = true by kernel_rfl) t this
theorem av_str {n t : Nat} {cs : List AV} (hu : Tryz.prog.underlying t = some .string) (h : AvOf Tryz.prog n t cs) : ∃ s, cs = [.str s] ∧ s.length ≤ maxLen := by
  cases n with
  | zero => cases h
  | succ n => simp only [AvOf, hu] at h; exact h
theorem av_u8 {n t : Nat} {cs : List AV} (hu : Tryz.prog.underlying t = some (.int .u8)) (h : AvOf Tryz.prog n t cs) : ∃ m : Nat, cs = [.int .u8 (m : Int)] := by
  cases n with
  | zero => cases h
  | succ n =>
    simp only [AvOf, hu] at h
    obtain ⟨m, rfl, h1, h2⟩ := h
    have h1 : (0 : Int) ≤ m := h1
    exact ⟨m.toNat, by rw [Int.toNat_of_nonneg h1]⟩
theorem av_int {n t : Nat} {cs : List AV} (hu : Tryz.prog.underlying t = some (.int .i64)) (h : AvOf Tryz.prog n t cs) : ∃ m : Int, cs = [.int .i64 m] := by
  cases n with
  | zero => cases h
  | succ n =>
    simp only [AvOf, hu] at h
    obtain ⟨m, rfl, _⟩ := h
    exact ⟨m, rfl⟩
theorem av_bool {n t : Nat} {cs : List AV} (hu : Tryz.prog.underlying t = some .bool) (h : AvOf Tryz.prog n t cs) : ∃ b : Bool, cs = [.bool b] := by
  cases n with
  | zero => cases h
  | succ n =>
    simp only [AvOf, hu] at h
    exact h
theorem span_of {n : Nat} {cs : List AV} (h : AvOf Tryz.prog n 32 cs) : ∃ sp : Sp, cs = [.int .i64 sp.1, .int .i64 sp.2] := by
  cases n with
  | zero => cases h
  | succ n =>
    simp only [AvOf, Tryz.underlying32] at h
    obtain ⟨a0, b0, rfl, h0, a1, b1, rfl, h1, rfl⟩ := h
    obtain ⟨x, rfl⟩ := av_int Tryz.underlying3 h0
    obtain ⟨y, rfl⟩ := av_int Tryz.underlying3 h1
    exact ⟨(x, y), rfl⟩
/-- A slice as an argument. -/
theorem av_sl {n t e : Nat} {cs : List AV} (hu : Tryz.prog.underlying t = some (.slice e)) (h : AvOf Tryz.prog (n + 1) t cs) (hst : isSt Tryz.prog e = true) {z : Nat} (hz : Tryz.prog.cellsOf e = z) :
    ∃ (x : AV) (L : List (List AV)), cs = [x] ∧ IsSl z x (L.map .agg) ∧ (∀ a ∈ L, AvOf Tryz.prog n e a) ∧ bulkAs (L.map .agg) + 1 ≤ bulkAs cs := by
  simp only [AvOf, hu] at h
  rcases h with rfl | rfl | ⟨L, rfl, hl, hL⟩
  · exact ⟨_, [], rfl, IsSl.nils, (fun _ h => by cases h), by rw [bulkAs_cons, List.map_nil, bulkAs_nil]; simp only [bulkA]; omega⟩
  · exact ⟨_, [], rfl, IsSl.emp, (fun _ h => by cases h), by rw [bulkAs_cons, List.map_nil, bulkAs_nil]; simp only [bulkA]; omega⟩
  · rw [hst, hz]
    refine ⟨_, L, rfl, IsSl.wide (by rw [List.length_map]; simpa [maxLen] using hl), hL, ?_⟩
    rw [bulkAs_cons, bulkAs_nil, bulkA_sl]
    exact Nat.le_refl _
theorem bulk_mem {L : List (List AV)} {a : List AV} (h : a ∈ L) : bulkAs a ≤ bulkAs (L.map AV.agg) := by
  induction L with
  | nil => cases h
  | cons b L ih =>
    rw [List.map_cons, bulkAs_cons, bulkA_agg]
    rcases List.mem_cons.1 h with rfl | h
    · omega
    · have := ih h; omega
theorem pats_in : ∀ {L : List (List AV)}, (∀ a ∈ L, ∃ p, IsP p (.agg a) ∧ nP p ≤ bulkAs a) → ∃ ps, IsPs ps (L.map .agg) ∧ nPs ps ≤ bulkAs (L.map AV.agg)
  | [], _ => ⟨[], IsPs.nil, by simp only [nPs]; exact Nat.zero_le _⟩
  | a :: L, h => by
    obtain ⟨p, hp, hn⟩ := h a List.mem_cons_self
    obtain ⟨ps, hps, hm⟩ := pats_in (L := L) fun b hb => h b (List.mem_cons_of_mem _ hb)
    refine ⟨p :: ps, IsPs.cons hp hps, ?_⟩
    simp only [nPs, List.map_cons, bulkAs_cons, bulkA_agg]
    omega
theorem exprs_in : ∀ {L : List (List AV)}, (∀ a ∈ L, ∃ e, IsE e (.agg a) ∧ nE e ≤ bulkAs a) → ∃ l, IsEs l (L.map .agg) ∧ nEs l ≤ bulkAs (L.map AV.agg)
  | [], _ => ⟨[], IsEs.nil, by simp only [nEs]; exact Nat.zero_le _⟩
  | a :: L, h => by
    obtain ⟨p, hp, hn⟩ := h a List.mem_cons_self
    obtain ⟨ps, hps, hm⟩ := exprs_in (L := L) fun b hb => h b (List.mem_cons_of_mem _ hb)
    refine ⟨p :: ps, IsEs.cons hp hps, ?_⟩
    simp only [nEs, List.map_cons, bulkAs_cons, bulkA_agg]
    omega
theorem nPs_len : ∀ (ps : List Pat), ps.length ≤ nPs ps
  | [] => by simp
  | .mk k lit sp nm qs :: ps => by
    have := nPs_len ps
    simp only [List.length_cons, nPs, nP]
    omega
theorem pat_of : ∀ (n : Nat) {cs : List AV}, AvOf Tryz.prog n 101 cs → ∃ p, IsP p (.agg cs) ∧ nP p ≤ bulkAs cs := by
  intro n
  induction n using Nat.strongRecOn with
  | _ n ih =>
    intro cs h
    cases n with
    | zero => cases h
    | succ n =>
      simp only [AvOf, Tryz.underlying101] at h
      obtain ⟨a0, b0, rfl, h0, a1, b1, rfl, h1, a2, b2, rfl, h2, a3, b3, rfl, h3, a4, b4, rfl, h4, rfl⟩ := h
      obtain ⟨k, rfl⟩ := av_u8 Tryz.underlying5 h0
      obtain ⟨lit, rfl⟩ := av_u8 Tryz.underlying5 h1
      obtain ⟨sp, rfl⟩ := span_of h2
      obtain ⟨nm, rfl, _⟩ := av_str Tryz.underlying9 h3
      cases n with
      | zero => cases h4
      | succ n =>
        obtain ⟨x, L, rfl, hx, hL, hb⟩ := av_sl Tryz.underlying60 h4 (by kernel_rfl) (z := 6) (by kernel_rfl)
        obtain ⟨ps, hps, hn⟩ := pats_in (L := L) fun a ha => ih n (by omega) (hL a ha)
        refine ⟨.mk k lit sp nm ps, by simp only [IsP]; exact ⟨x, _, rfl, hx, hps⟩, ?_⟩
        simp only [nP, bulkAs_app, bulkAs_cons, bulkAs_nil, bulkA_int, bulkA_str] at hb ⊢
        omega
theorem expr_of : ∀ (n : Nat) {cs : List AV}, AvOf Tryz.prog n 63 cs → bulkAs cs ≤ 1048576 → ∃ e, IsE e (.agg cs) ∧ nE e ≤ bulkAs cs := by
  intro n
  induction n using Nat.strongRecOn with
  | _ n ih =>
    intro cs h hbk
    cases n with
    | zero => cases h
    | succ n =>
      simp only [AvOf, Tryz.underlying63] at h
      obtain ⟨a0, b0, rfl, h0, a1, b1, rfl, h1, a2, b2, rfl, h2, a3, b3, rfl, h3, a4, b4, rfl, h4, a5, b5, rfl, h5, rfl⟩ := h
      obtain ⟨k, rfl⟩ := av_u8 Tryz.underlying5 h0
      obtain ⟨sp, rfl⟩ := span_of h1
      obtain ⟨rc, rfl⟩ := av_bool Tryz.underlying4 h2
      obtain ⟨nm, rfl, _⟩ := av_str Tryz.underlying9 h3
      cases n with
      | zero => cases h4
      | succ n =>
        obtain ⟨x, L, rfl, hx, hL, hb⟩ := av_sl Tryz.underlying60 h4 (by kernel_rfl) (z := 6) (by kernel_rfl)
        obtain ⟨y, M, rfl, hy, hM, hc⟩ := av_sl Tryz.underlying61 h5 (by kernel_rfl) (z := 7) (by kernel_rfl)
        simp only [bulkAs_app, bulkAs_cons, bulkAs_nil, bulkA_int, bulkA_str, bulkA_bool] at hb hc hbk
        obtain ⟨ps, hps, hn⟩ := pats_in (L := L) fun a ha => pat_of n (hL a ha)
        obtain ⟨ls, hls, hm⟩ := exprs_in (L := M) fun a ha => ih n (by omega) (hM a ha) (by have := bulk_mem ha; omega)
        have hlen := nPs_len ps
        refine ⟨.mk k sp rc nm ps ls, by simp only [IsE]; exact ⟨x, _, y, _, rfl, hx, hps, hy, hls, by omega⟩, ?_⟩
        simp only [nE, bulkAs_app, bulkAs_cons, bulkAs_nil, bulkA_int, bulkA_str, bulkA_bool]
        omega
theorem bind_of {n : Nat} {cs : List AV} (h : AvOf Tryz.prog n 65 cs) (hbk : bulkAs cs ≤ 1048576) : ∃ d, IsD d (.agg cs) ∧ nPs d.ps + nE d.body ≤ bulkAs cs := by
  cases n with
  | zero => cases h
  | succ n =>
    simp only [AvOf, Tryz.underlying65] at h
    obtain ⟨a0, b0, rfl, h0, a1, b1, rfl, h1, a2, b2, rfl, h2, a3, b3, rfl, h3, rfl⟩ := h
    obtain ⟨sp, rfl⟩ := span_of h0
    obtain ⟨rc, rfl⟩ := av_bool Tryz.underlying4 h1
    cases n with
    | zero => cases h2
    | succ n =>
      obtain ⟨x, L, rfl, hx, hL, hb⟩ := av_sl Tryz.underlying60 h2 (by kernel_rfl) (z := 6) (by kernel_rfl)
      simp only [bulkAs_app, bulkAs_cons, bulkAs_nil, bulkA_int, bulkA_str, bulkA_bool] at hb hbk
      obtain ⟨ps, hps, hn⟩ := pats_in (L := L) fun a ha => pat_of n (hL a ha)
      obtain ⟨e, he, hm⟩ := expr_of _ h3 (by omega)
      refine ⟨⟨sp, rc, ps, e⟩, ⟨x, _, a3, by simp, hx, hps, he⟩, ?_⟩
      simp only [bulkAs_app, bulkAs_cons, bulkAs_nil, bulkA_int, bulkA_str, bulkA_bool]
      omega
theorem binds_in : ∀ {L : List (List AV)}, (∀ a ∈ L, ∃ d, IsD d (.agg a) ∧ nPs d.ps + nE d.body ≤ bulkAs a) → ∃ l, IsDs l (L.map .agg) ∧ nDs l ≤ bulkAs (L.map AV.agg)
  | [], _ => ⟨[], by simp only [IsDs, List.map_nil], by simp only [nDs]; exact Nat.zero_le _⟩
  | a :: L, h => by
    obtain ⟨p, hp, hn⟩ := h a List.mem_cons_self
    obtain ⟨ps, hps, hm⟩ := binds_in (L := L) fun b hb => h b (List.mem_cons_of_mem _ hb)
    refine ⟨p :: ps, by simp only [IsDs, List.map_cons]; exact ⟨_, _, rfl, hp, hps⟩, ?_⟩
    simp only [nDs, List.map_cons, bulkAs_cons, bulkA_agg]
    omega
theorem decls_of {n : Nat} {cs : List AV} (h : AvOf Tryz.prog n 22 cs) (hbk : bulkAs cs ≤ 1048576) : ∃ x l es, cs = [x] ∧ IsSl 11 x es ∧ IsDs l es ∧ nDs l ≤ bulkAs cs := by
  cases n with
  | zero => cases h
  | succ n =>
    obtain ⟨x, L, rfl, hx, hL, hb⟩ := av_sl Tryz.underlying22 h (by kernel_rfl) (z := 11) (by kernel_rfl)
    obtain ⟨l, hl, hn⟩ := binds_in (L := L) fun a ha => bind_of (hL a ha) (by have := bulk_mem ha; omega)
    exact ⟨x, l, _, rfl, hx, hl, by omega⟩
theorem sm_of {l : List Bd} (h : nDs l ≤ 4000000) : Sm (ofS l) := by
  have h1 := wt_of l
  unfold wt at h1
  exact ⟨by omega, by omega, by omega⟩
end Go.Proofs.YtoopmjhdgkcleaaGreatDoor.Vm
