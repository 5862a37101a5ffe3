/-
  A part of the proof.
-/
import Derived.Test.YtkknkhniadiapaaDoorVmBC
import Derived.Lib.LaidU8
import Derived.MakeChecks
namespace Go.VM
open Go.Lib Go.MakeChecks
theorem tab_arr {P : Program} {w : World} {name : String} {k : IntKind} {zs : List Int} {g : Nat} {t e : TypeId} {n : Nat} (hg : P.globalNamed name = some g) (hty : (P.globals[g]?).map (·.type) = some t)
    (ht : P.underlying t = some (.array n e)) (he : P.underlying e = some (.int k)) (hce : P.cellsOf e = 1) (hct : P.cellsOf t = n) (h : VarReads P w name (tabData k zs)) {cs : List AV} (hcs : cs = zs.map (AV.int k)) :
    ∀ o v, cs[o]? = some v → w.cell? ⟨g, o, none⟩ = some (intV v) := by
  subst hcs
  intro o v hv
  obtain ⟨g', t', cs, fuel, p, hg', hty', hvar, hd⟩ := h
  obtain rfl := Option.some.inj (hg.symm.trans hg')
  obtain rfl := Option.some.inj (hty.symm.trans hty')
  have hcs := cells_of_tab ht he hce hct hd
  rw [World.var?_cell hg hvar o, ← Array.getElem?_toList, hcs]
  simp only [List.getElem?_map, Option.map_eq_some_iff] at hv ⊢
  obtain ⟨z, hz, rfl⟩ := hv
  exact ⟨z, hz, rfl⟩
theorem flat_at {α : Type} {m : Nat} : ∀ {zss : List (List α)} {o : Nat} {v : α}, (∀ zs ∈ zss, zs.length = m) → 0 < m → zss.flatten[o]? = some v → ∃ zs, zss[o / m]? = some zs ∧ zs[o % m]? = some v
  | [], o, v, _, _, h => by simp at h
  | zs :: zss, o, v, hl, hm, h => by
    have hzs : zs.length = m := hl zs List.mem_cons_self
    by_cases ho : o < m
    · refine ⟨zs, by rw [Nat.div_eq_of_lt ho]; rfl, ?_⟩
      rw [Nat.mod_eq_of_lt ho]
      rw [List.flatten_cons, List.getElem?_append_left (by omega)] at h
      exact h
    · rw [List.flatten_cons, List.getElem?_append_right (by omega), hzs] at h
      obtain ⟨ys, h1, h2⟩ := flat_at (fun z hz => hl z (List.mem_cons_of_mem _ hz)) hm h
      have e : o / m = (o - m) / m + 1 := by
        rw [Nat.div_eq o m, if_pos ⟨hm, by omega⟩]
      have e2 : o % m = (o - m) % m := Nat.mod_eq_sub_mod (by omega)
      exact ⟨ys, by rw [e]; simpa using h1, by rw [e2]; exact h2⟩
theorem tab_structs {P : Program} {w : World} {name : String} {k : IntKind} {zss : List (List Int)} {g : Nat} {t e : TypeId} {n : Nat} {fs : Array Field} (hg : P.globalNamed name = some g) (hty : (P.globals[g]?).map (·.type) = some t)
    (ht : P.underlying t = some (.array n e)) (he : P.underlying e = some (.struct fs))
    (hf : ∀ (i : Nat) (f : Field), fs[i]? = some f → P.underlying f.type = some (.int k) ∧ f.offset = i ∧ P.cellsOf f.type = 1) (hce : P.cellsOf e = fs.size) (hn : zss.length = n) (hpos : 0 < fs.size) (hlen : ∀ zs ∈ zss, zs.length = fs.size)
    (h : VarReads P w name (.agg (zss.map fun zs => .agg (zs.map fun z => .lit (.int k z))))) {cs : List AV} (hcs : cs = zss.flatten.map (AV.int k)) :
    ∀ o v, cs[o]? = some v → w.cell? ⟨g, o, none⟩ = some (intV v) := by
  subst hcs
  intro o v hv
  obtain ⟨g', t', cs, fuel, p, hg', hty', hvar, hd⟩ := h
  obtain rfl := Option.some.inj (hg.symm.trans hg')
  obtain rfl := Option.some.inj (hty.symm.trans hty')
  simp only [List.getElem?_map, Option.map_eq_some_iff] at hv
  obtain ⟨z, hz, rfl⟩ := hv
  obtain ⟨zs, h1, h2⟩ := flat_at hlen hpos hz
  have hi : o / fs.size < n := by
    rcases Nat.lt_or_ge (o / fs.size) zss.length with q | q
    · omega
    · rw [List.getElem?_eq_none q] at h1; cases h1
  obtain ⟨fuel', d, q, hdi, he'⟩ := array_elem ht hd (o / fs.size) hi
  simp only [List.getElem?_map, h1, Option.map_some, Option.some.injEq] at hdi
  subst hdi
  rw [hce] at he'
  have hcs := ints_of_struct he hf hce he'
  have := congrArg (·[o % fs.size]?) hcs
  simp only [List.getElem?_take, List.getElem?_drop, List.getElem?_map, h2, Option.map_some] at this
  rw [if_pos (Nat.mod_lt _ hpos)] at this
  rw [World.var?_cell hg hvar o, ← Array.getElem?_toList]
  have e : o / fs.size * fs.size + o % fs.size = o := by rw [Nat.mul_comm]; exact Nat.div_add_mod o fs.size
  rw [e] at this
  simpa [intV] using this
theorem reads_of {P : Program} {w : World} {l : List (String × DataW Unit)} (h : laidMetH P l w) (hp : (l.all fun x => x.2.handleName?.isNone) = true) {n : String} {d : DataW Unit} (hm : (n, d) ∈ l) : VarReads P w n d := by
  rw [laidMetH_plain P l w hp] at h
  exact Go.Lib.laidMet.reads h hm
end Go.VM
namespace Go.VM
def lookP {α : Type} : List (Nat × α) → Nat → Option α
  | [], _ => none
  | (k, v) :: l, i => match k.beq i with
    | true => some v
    | false => lookP l i
def AllP {α : Type} (p : Nat → α → Prop) : List (Nat × α) → Prop
  | [] => True
  | (k, v) :: l => p k v ∧ AllP p l
theorem lookP_all {α : Type} {p : Nat → α → Prop} : ∀ {l : List (Nat × α)}, AllP p l → ∀ k v, lookP l k = some v → p k v
  | [], _, _, _, h => by cases h
  | (j, u) :: l, ha, k, v, h => by
    unfold lookP at h
    split at h
    · rename_i e
      cases h
      obtain rfl := Nat.eq_of_beq_eq_true e
      exact ha.1
    · exact lookP_all ha.2 k v h
def fnsOf (P : Program) (l : List Nat) (k : Nat) : Option Func := match l.any fun j => k.beq j with
  | true => P.funcs[k]?
  | false => none
def fnGood (fn : Func) : Bool := !(fn.name == "runtime.NumGoroutine") && (fn.body.isSome && fn.body.all codeOk)
theorem fns_ok {P : Program} {l : List Nat} {d : Nat} (hc : (l.all fun k => match P.funcs[k]? with
    | some fn => fnGood fn
    | none => true) = true) (f : FuncId) (fn : Func) (h : (Tr.of d (fnsOf P l)).get f = some fn) : FnOk P f fn := by
  have h := Tr.get_of _ _ _ _ h
  unfold fnsOf at h
  split at h
  · rename_i ha
    obtain ⟨j, hj, e⟩ := List.any_eq_true.1 ha
    obtain rfl := Nat.eq_of_beq_eq_true e
    have hg := List.all_eq_true.1 hc f hj
    rw [h] at hg
    simp only [fnGood, Bool.and_eq_true, Bool.not_eq_true', beq_eq_false_iff_ne, ne_eq] at hg
    obtain ⟨h1, h2, h3⟩ := hg
    cases hb : fn.body with
    | none => rw [hb] at h2; cases h2
    | some c =>
      refine ⟨h, fun args w => ?_, fun c' hc' => ?_⟩
      · simp [callFunc, h, h1, hb]
      · rw [hc'] at h3; exact h3
  · cases h
end Go.VM
