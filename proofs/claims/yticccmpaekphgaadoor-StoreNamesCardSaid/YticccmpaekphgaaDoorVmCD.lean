/-
  (A part of the proof: StoreG, StoreI, StoreH, StoreWk, FL4, StoreJ, FL3, StoreParts, StoreStays, StoreK, FL5, StoreNames, StoreArg.)
-/
import Derived.Test.YticccmpaekphgaaDoorVmCC
import Derived.Test.YticccmpaekphgaaDoorVmAJ
import Derived.Test.YticccmpaekphgaaDoorVmAI
import Derived.Test.YticccmpaekphgaaDoorVmBI
/- The laws' own functions: large, given, last. -/
set_option maxRecDepth 100000
set_option linter.unusedSimpArgs false
namespace Go.Proofs.YticccmpaekphgaaDoor.Vm
open Go Go.VM Go.Proofs Go.Store Go.Lib T

structure Stp where
  kind : Int
  name : B
  no : Int
  text : B
  cs : List Chg
section
variable {x : AV} {es : List AV} {ss : List Stp}
end
section
variable {st st' : St} {sp ow : Nat} {ds : List Dc}
/-- What Last tells. -/
def lastT (ds : List Dc) (nm : B) : Int × B × Int := match findN nm ds 0 with
  | none => (0, [], 5)
  | some k => match (ds[k]?).bind fun d => d.vs.getLast? with
    | none => (0, [], 5)
    | some v => (v.1, v.2.text, 0)
theorem call_lastS (h : Sto st sp ow ds) (hok : ∀ d ∈ ds, DcOk d) (hl : ds.length ≤ 1000000) (nm : B) :
    ∃ st', Keeps st st' (fun _ => False) ∧ ∀ {β : Type} (K : Kv β), callS (orc vE) 14 [.mp sp 0, .str nm] st K = K (.tup [.int .i64 (lastT ds nm).1, .str (lastT ds nm).2.1, .int .i64 (lastT ds nm).2.2]) st' ⟨[], .all st st'⟩ := by
  obtain ⟨st', e, k⟩ := lastS_ok h hok hl nm
  refine ⟨st', k, fun K => callS_wide K rfl (bares_mp _ _ _ _) (e.trans ?_)⟩
  unfold lastT
  cases hf : findN nm ds 0 with
  | none => rfl
  | some i =>
    obtain ⟨_, d, hd, _⟩ := findN_some hf
    rw [Nat.sub_zero] at hd
    obtain ⟨v, hv⟩ := last_of (hok d (List.mem_of_getElem? hd))
    simp only [hd, Option.bind_some, hv]
theorem lastL_ok (h : Sto st sp ow ds) (hok : ∀ d ∈ ds, DcOk d) (hl : ds.length ≤ 1000000) (nm : B) (no : Int) (tx : B) :
    ∃ st', Keeps st st' (fun _ => False) ∧ ∀ {β : Type} (K : Kv β), callS (orc vE) 13 [.mp sp 0, .str nm, .int .i64 no, .str tx] st K = K (.bool (decide (lastT ds nm = (no, tx, 0)))) st' ⟨[], .all st st'⟩ := by
  obtain ⟨s1, k1, cl⟩ := call_lastS h hok hl nm
  refine ⟨s1, k1, fun K => callS_wide K rfl (bares_mp _ _ _ _) (wide_of ((w13_eq _ _ _ _ _).trans ?_))⟩
  generalize lastT ds nm = q at cl ⊢
  obtain ⟨a, b, c⟩ := q
  simp only at cl
  by_cases h1 : c = 0
  · by_cases h2 : a = no
    · have hb : (b == tx) = decide ((a, b, c) = (no, tx, (0 : Int))) := by
        by_cases hbt : b = tx
        · rw [beq_iff_eq.2 hbt, hbt, h1, h2]; simp
        · rw [beq_eq_false_iff_ne.2 hbt, decide_eq_false fun h => by injection h with _ h; injection h with h _; exact hbt h]
      simp only [w13, asS_str, asI_int, cl, unT_tup, nthS_zero, nthS_one, nthS_two, ifB_beq, if_pos h1, if_pos h2, bindO_ok, unc_cons, asB_bool, un0_nil, hb]
    · have hb : false = decide ((a, b, c) = (no, tx, (0 : Int))) := (decide_eq_false fun h => by injection h with h _; exact h2 h).symm
      simp only [w13, asS_str, asI_int, cl, unT_tup, nthS_zero, nthS_one, nthS_two, ifB_beq, if_pos h1, if_neg h2, bindO_ok, unc_cons, asB_bool, un0_nil, ← hb]
  · have hb : false = decide ((a, b, c) = (no, tx, (0 : Int))) := (decide_eq_false fun h => by injection h with _ h; injection h with _ h; exact h1 h).symm
    simp only [w13, asS_str, asI_int, cl, unT_tup, nthS_zero, nthS_one, nthS_two, ifB_beq, if_neg h1, bindO_ok, unc_cons, asB_bool, un0_nil, ← hb]
end
end Go.Proofs.YticccmpaekphgaaDoor.Vm
/- Steps: what they make of a store, and what stays: plain Lean. -/
set_option linter.unusedSimpArgs false
namespace Go.Proofs.YticccmpaekphgaaDoor.Vm
open Go Go.VM Go.Proofs Go.Store Go.Lib T

def Dc.kept (d : Dc) : List (Int × T) := d.vs.drop (d.vs.length - 8)
def verF (no : Int) : List (Int × T) → Option T
  | [] => none
  | v :: l => if v.1 = no then some v.2 else verF no l
def docN' (nm : B) (ds : List Dc) : Option Dc := (findN nm ds 0).bind fun k => ds[k]?
def atT (ds : List Dc) (nm : B) (no : Int) : Option B := (docN' nm ds).bind fun d => (verF no d.kept).map T.text
structure DsOk (ds : List Dc) : Prop where
  ok : ∀ d ∈ ds, DcOk d
  len : ds.length ≤ 32
  apart : ds.Pairwise fun a b => a.nm ≠ b.nm
/-- A step, done. -/
inductive Does (ds : List Dc) (s : Stp) : Nat → List Dc → Prop where
  | no (e : Nat) (h : e ≠ 0) : Does ds s e ds
  | opened (t : T) (w : WF t) (hs : t.size ≤ 65536) (hf : findN s.name ds 0 = none) (hl : ds.length < 32) (hn : badN s.no = false) : Does ds s 0 (ds ++ [⟨s.name, [(s.no, t)]⟩])
  | changed (i : Nat) (d : Dc) (v : Int × T) (t : T) (hk : s.kind = 1) (w : WF t) (hs : t.size ≤ 65536) (hf : findN s.name ds 0 = some i) (hd : ds[i]? = some d) (hv : d.vs.getLast? = some v) (hlt : v.1 < s.no) (hn : badN s.no = false) : Does ds s 0 (ds.set i ⟨d.nm, d.vs ++ [(s.no, t)]⟩)
  | closed (i : Nat) (hk : s.kind = 2) (hf : findN s.name ds 0 = some i) : Does ds s 0 (ds.eraseIdx i)
theorem findN_none {nm : B} : ∀ {l : List Dc} {i : Nat}, findN nm l i = none → ∀ d ∈ l, d.nm ≠ nm
  | [], _, _, _, h => by cases h
  | c :: l, i, h, d, hd => by
    unfold findN at h
    split at h
    · cases h
    · rcases List.mem_cons.1 hd with rfl | hd
      · assumption
      · exact findN_none h d hd
theorem find_doc {nm : B} {ds : List Dc} {i : Nat} (h : findN nm ds 0 = some i) : ∃ d, ds[i]? = some d ∧ d.nm = nm := by
  obtain ⟨_, d, hd, hn⟩ := findN_some h
  exact ⟨d, by simpa using hd, hn⟩
section
variable {ds ds' : List Dc} {s : Stp} {e : Nat}
theorem pair_erase {l : List Dc} (h : l.Pairwise fun a b => a.nm ≠ b.nm) (i : Nat) : (l.eraseIdx i).Pairwise fun a b => a.nm ≠ b.nm := h.sublist (List.eraseIdx_sublist l i)
theorem pair_set : ∀ {l : List Dc} (_ : l.Pairwise fun a b => a.nm ≠ b.nm) {i : Nat} {d x : Dc}, l[i]? = some d → x.nm = d.nm → (l.set i x).Pairwise fun a b => a.nm ≠ b.nm
  | [], _, _, _, _, hd, _ => by simp at hd
  | c :: l, h, 0, d, x, hd, hn => by
    simp only [List.getElem?_cons_zero, Option.some.injEq] at hd
    subst hd
    exact List.pairwise_cons.2 ⟨fun b hb => by rw [hn]; exact List.rel_of_pairwise_cons h hb, h.tail⟩
  | c :: l, h, i + 1, d, x, hd, hn => by
    have hd : l[i]? = some d := by simpa using hd
    refine List.pairwise_cons.2 ⟨fun b hb => ?_, pair_set h.tail hd hn⟩
    rcases List.mem_or_eq_of_mem_set hb with hb | rfl
    · exact List.rel_of_pairwise_cons h hb
    · rw [hn]; exact List.rel_of_pairwise_cons h (List.mem_of_getElem? hd)
theorem last_top : ∀ {l : List (Int × T)} {v : Int × T}, (l.Pairwise fun a b => a.1 < b.1) → l.getLast? = some v → ∀ u ∈ l, u.1 ≤ v.1
  | [], _, _, h, _, _ => by simp at h
  | [a], v, _, h, u, hu => by
    simp only [List.getLast?_singleton, Option.some.injEq] at h
    subst h
    rw [List.mem_singleton.1 hu]; exact Int.le_refl _
  | a :: b :: l, v, hp, h, u, hu => by
    have h : (b :: l).getLast? = some v := by simpa [List.getLast?_cons_cons] using h
    rcases List.mem_cons.1 hu with rfl | hu
    · have := List.rel_of_pairwise_cons hp (List.mem_of_getLast? h); omega
    · exact last_top hp.tail h u hu
theorem dc_app {d : Dc} (ok : DcOk d) {v : Int × T} (hv : d.vs.getLast? = some v) {no : Int} {t : T} (w : WF t) (hs : t.size ≤ 65536) (hlt : v.1 < no) (hn : badN no = false) : DcOk ⟨d.nm, d.vs ++ [(no, t)]⟩ := by
  refine ⟨by simp, ?_, ?_, ?_⟩
  · refine List.pairwise_append.2 ⟨ok.rise, List.pairwise_singleton _ _, fun a ha b hb => ?_⟩
    rw [List.mem_singleton.1 hb]
    have := last_top ok.rise hv a ha
    show a.1 < no
    omega
  · intro u hu
    rcases List.mem_append.1 hu with hu | hu
    · exact ok.nos u hu
    · rw [List.mem_singleton.1 hu]; exact badN_no hn
  · intro u hu
    rcases List.mem_append.1 hu with hu | hu
    · exact ok.wf u hu
    · rw [List.mem_singleton.1 hu]; exact ⟨w, hs⟩
theorem does_ok (h : DsOk ds) (hd : Does ds s e ds') : DsOk ds' := by
  cases hd with
  | no _ _ => exact h
  | opened t w hs hf hl hn =>
    refine ⟨fun d hd => ?_, by rw [List.length_append, List.length_singleton]; omega, List.pairwise_append.2 ⟨h.apart, List.pairwise_singleton _ _, fun a ha b hb => ?_⟩⟩
    · rcases List.mem_append.1 hd with hd | hd
      · exact h.ok d hd
      · rw [List.mem_singleton.1 hd]
        refine ⟨by simp, List.pairwise_singleton _ _, fun v hv => ?_, fun v hv => ?_⟩
        · rw [List.mem_singleton.1 hv]; exact badN_no hn
        · rw [List.mem_singleton.1 hv]; exact ⟨w, hs⟩
    · rw [List.mem_singleton.1 hb]; exact findN_none hf a ha
  | changed i d v t hk w hs hf hg hv hlt hn =>
    refine ⟨fun c hc => ?_, by rw [List.length_set]; exact h.len, pair_set h.apart hg rfl⟩
    rcases List.mem_or_eq_of_mem_set hc with hc | rfl
    · exact h.ok c hc
    · exact dc_app (h.ok d (List.mem_of_getElem? hg)) hv w hs hlt hn
  | closed i hk hf =>
    exact ⟨fun c hc => h.ok c (List.mem_of_mem_eraseIdx hc), Nat.le_trans (List.length_eraseIdx_le ds i) h.len, pair_erase h.apart i⟩
theorem kept_len (d : Dc) : d.kept.length ≤ 8 := by unfold Dc.kept; rw [List.length_drop]; omega
end
end Go.Proofs.YticccmpaekphgaaDoor.Vm
/- The store: Names, Kept, At, Close. -/
set_option maxRecDepth 100000
set_option linter.unusedSimpArgs false
set_option maxHeartbeats 1000000
namespace Go.Proofs.YticccmpaekphgaaDoor.Vm
open Go Go.VM Go.Proofs Go.Store Go.Lib T

section
variable {st0 st st' : St} {sp ow : Nat} {ds : List Dc}
/-- What is made on the way: a slice of which the end is new. -/
structure Way (st0 st : St) (v : AV) : Prop where
  keeps : Keeps st0 st (fun _ => False)
  new : ∀ j, ownerOf v j → st0.h ≤ j
theorem way_nils (st : St) : Way st st .nils := ⟨Keeps.refl _ _, fun j => by rintro ⟨_, _, h⟩; cases h⟩
theorem Way.keep {v : AV} (h : Way st0 st v) (k : Keeps st st' (fun _ => False)) : Way st0 st' v := ⟨h.keeps.trans k, h.new⟩
theorem Way.app {v v' : AV} (h : Way st0 st v) (k : Keeps st st' (ownerOf v)) (j : ∀ j, ownerOf v' j → ownerOf v j ∨ st.h ≤ j) : Way st0 st' v' :=
  ⟨Keeps.join h.keeps k fun i hi => .inr (h.new i hi), fun i hi => by
    rcases j i hi with hi | hi
    · exact h.new i hi
    · exact Nat.le_trans h.keeps.h hi⟩
abbrev zeroDoc : List AV := [AV.str [], AV.int .i64 0, AV.nilp, AV.int .i64 0, AV.nilp, AV.int .i64 0, AV.nilp, AV.int .i64 0, AV.nilp, AV.int .i64 0, AV.nilp, AV.int .i64 0, AV.nilp, AV.int .i64 0, AV.nilp, AV.int .i64 0, AV.nilp, AV.int .i64 0]
def nmV (d : Dc) : AV := .str d.nm
theorem names_loop (h0 : Sto st0 sp ow ds) (hw : st0.get ow = .ok (.row ds.length DT 18 (flat (ds.map Dc.val)))) (hlen : ds.length ≤ 1000000) : ∀ (m : List Dc) (i : Nat) (out : List Dc) (v : AV) (st : St), ds.drop i = m → Way st0 st v → Own st 1 9 v (out.map nmV) → out.length + m.length ≤ 1000000 →
    ∃ v' st', loopO (w15_L1 (.gs ow 18 ds.length) ds.length) ([v, .int .i64 (i : Int)], st) = some (0, [v'], st') ∧ Own st' 1 9 v' ((out ++ m).map nmV) ∧ Way st0 st' v'
  | [], i, out, v, st, hd, hW, ho, hl => by
    have := List.drop_eq_nil_iff.1 hd
    have q : ¬ (i : Int) < (ds.length : Int) := by omega
    refine ⟨v, st, loopO_inr ?_, by simpa using ho, hW⟩
    simp only [w15_L1, unc_cons, asI_int, un0_nil, ifB_decide, if_neg q]
  | d :: m, i, out, v, st, hd, hW, ho, hl => by
    obtain ⟨hg, hdr, hlt⟩ := drop_cons hd
    have q : (i : Int) < (ds.length : Int) := by omega
    have hst := h0.keeps hW.keeps
    have hws := hW.keeps.old _ _ (fun f => f) hw
    have ix := fun {β : Type} (K : AV → List Nat → Option β) => idxA_gs hws hlt K
    have ld := fun {β : Type} (K : AV → List Nat → Option β) => row_load hws hg K
    have a := fun j => (slot_pt d.pt j).asOne (β := Car ⊕ Nat × Car)
    obtain ⟨s1, g1, k1, n1, fx1, e1⟩ := local_var (O := orc vE) (st := st) (t := DT) (z := 18) (old := zeroDoc) (cs := docC d.nm d.pv) (.agg (docC d.nm d.pv)) rfl rfl hst.ro
    have l1 : ∀ {β : Type} (K : AV → List Nat → Option β), loadS 1 false (.mp st.h 0) s1 K = K (.str d.nm) [st.h] := fun K => by rw [loadS_mp g1]; rfl
    have hw1 : IntKind.wrap .i64 ((i : Int) + 1) = ((i + 1 : Nat) : Int) := wrapA1 (by omega)
    have ho1 := own_keep ho k1 (fun _ _ f => f)
    obtain ⟨v1, s2, x1, ho2, k2, j2, _, e2⟩ := own_fx (b := 16) [.str d.nm] ho1 fun _ => room_of (by
      simp only [List.length_map, List.length_cons, List.length_nil] at hl ⊢; omega) (by omega) (by omega)
    have hW2 := (hW.keep k1).app k2 j2
    obtain ⟨v', st', e, o3, hW3⟩ := names_loop h0 hw hlen m (i + 1) (out ++ [d]) v1 s2 hdr hW2 (by rw [List.map_append]; exact ho2) (by simp only [List.length_append, List.length_cons, List.length_nil] at hl ⊢; omega)
    refine ⟨v', st', (loopO_inl ?_).trans e, by simpa using o3, hW3⟩
    simp only [Dc.val, docC, docN, docS] at ld e1
    simp only [w15_L1, unc_cons, asI_int, un0_nil, ifB_decide, if_pos q, ix, ld, unA_agg, asS_str, letSt_eq, a]
    refine (e1 _).trans ?_
    simp only [l1, asS_str, e2, letV_eq, hw1]
theorem names_ok (h : Sto st sp ow ds) (hlen : ds.length ≤ 1000000) : ∃ v st', (orc vE).wide 15 [.mp sp 0] st = some (v, st') ∧ Own st' 1 9 v (ds.map nmV) ∧ Way st st' v := by
  have l1 : ∀ {v : AV}, st.get sp = .ok (.cells SOT [v]) → ∀ {β : Type} (K : AV → List Nat → Option β), loadS 1 false (.mp sp 0) st K = K v [sp] := fun hg _ K => by rw [loadS_mp hg]; rfl
  obtain ⟨hr, v, hg, hv⟩ := id h
  rcases hv with ⟨rfl, rfl⟩ | ⟨rfl, hw⟩
  · have e : loopO (w15_L1 .nils 0) ([.nils, .int .i64 0], st) = some (0, [.nils], st) := by
      refine loopO_inr ?_
      have q : ¬ (0 : Int) < ((0 : Nat) : Int) := by omega
      simp only [w15_L1, unc_cons, asI_int, un0_nil, ifB_decide, if_neg q]
    refine ⟨.nils, st, wide_of ((w15_eq _ _).trans ?_), Own.nils h.ro _ _, way_nils st⟩
    simp only [w15, nil_mp, ifB_false, notNil_mp, chk_true, fldA_mp, Nat.add_zero, l1 hg, lenS_nils, e, bindO_ok, unc_cons, un0_nil, oneOf_one]
  · obtain ⟨v', st', e, o, w⟩ := names_loop h hw hlen ds 0 [] .nils st rfl (way_nils st) (Own.nils h.ro _ _) (by simpa using hlen)
    have e : loopO (w15_L1 (.gs ow 18 ds.length) ds.length) ([.nils, .int .i64 0], st) = _ := e
    refine ⟨v', st', wide_of ((w15_eq _ _).trans ?_), o, w⟩
    simp only [w15, nil_mp, ifB_false, notNil_mp, chk_true, fldA_mp, Nat.add_zero, l1 hg, lenS_gs, e, bindO_ok, unc_cons, un0_nil, oneOf_one]
theorem call_names (h : Sto st sp ow ds) (hlen : ds.length ≤ 1000000) : ∃ v st', Own st' 1 9 v (ds.map nmV) ∧ Way st st' v ∧ ∀ {β : Type} (K : Kv β), callS (orc vE) 15 [.mp sp 0] st K = K v st' ⟨[], .all st st'⟩ := by
  obtain ⟨v, st', e, o, w⟩ := names_ok h hlen
  exact ⟨v, st', o, w, fun K => callS_wide K rfl (bares_mp _ _ _ _) e⟩
theorem call_versions (h : Sto st sp ow ds) {i : Nat} {d : Dc} (hd : ds[i]? = some d) (ok : DcOk d) :
    ∃ v' st', Own st' 2 VT v' (d.kept.map fun v => verV (v.1, rp v.2)) ∧ Way st st' v' ∧ ∀ {β : Type} (K : Kv β), callS (orc vE) 36 [.gp ow ds.length (i * 18)] st K = K v' st' ⟨[], .all st st'⟩ := by
  have hne : 1 ≤ d.pv.length := by
    rw [d.pv_len]
    cases hv : d.vs with
    | nil => exact absurd hv ok.some
    | cons _ _ => simp
  obtain ⟨v', st', e, o, k, j⟩ := versions_ok (h.doc hd) d.pt (by rw [d.pv_len]; have := ok.len; omega) hne h.ro
  refine ⟨v', st', ?_, ⟨k, j⟩, fun K => callS_wide K rfl (bares_gp _ _ _ _ _) e⟩
  have : (d.pv.drop (d.pv.length - 8)).map verV = d.kept.map fun v => verV (v.1, rp v.2) := by
    unfold Dc.pv Dc.kept
    rw [← List.map_drop, List.map_map, List.length_map]
    rfl
  rw [← this]; exact o
def noV (v : Int × T) : AV := .int .i64 v.1
theorem kept_loop {x : AV} {l : List (Int × T)} {sx : St} (hx : Own sx 2 VT x (l.map fun v => verV (v.1, rp v.2))) (hr0 : st0.ro = 0) (hlen : l.length ≤ 1000000) : ∀ (m : List (Int × T)) (i : Nat) (out : List (Int × T)) (v : AV) (st : St), l.drop i = m → Way st0 st v → Own st 1 3 v (out.map noV) → out.length + m.length ≤ 1000000 →
    ∃ v' st', loopO (w16_L1 x l.length) ([v, .int .i64 (i : Int)], st) = some (0, [v'], st') ∧ Own st' 1 3 v' ((out ++ m).map noV) ∧ Way st0 st' v'
  | [], i, out, v, st, hd, hW, ho, hl => by
    have := List.drop_eq_nil_iff.1 hd
    have q : ¬ (i : Int) < (l.length : Int) := by omega
    refine ⟨v, st, loopO_inr ?_, by simpa using ho, hW⟩
    simp only [w16_L1, unc_cons, asI_int, un0_nil, ifB_decide, if_neg q]
  | u :: m, i, out, v, st, hd, hW, ho, hl => by
    obtain ⟨hg, hdr, hlt⟩ := drop_cons hd
    have q : (i : Int) < (l.length : Int) := by omega
    have hg2 : (l.map fun v => verV (v.1, rp v.2))[i]? = some (verV (u.1, rp u.2)) := by rw [List.getElem?_map, hg]; rfl
    have ix : ∀ {β : Type} (K : AV → List Nat → Option β), idxA 2 x (i : Int) st K = K (.ip [.int .i64 u.1, rp u.2]) [] := fun K => own_idx hx hg2 st K
    have tk2 : ∀ {β : Type} (a b : AV) (K : AV → Option β), bindO (takeO 2 true [a, b]) K = K (.agg [a, b]) := fun _ _ _ => rfl
    have ro : st.ro ≤ st.h := by rw [hW.keeps.ro, hr0]; exact Nat.zero_le _
    obtain ⟨s1, g1, k1, n1, fx1, e1⟩ := local_var (O := orc vE) (st := st) (t := VT) (z := 2) (old := [.int .i64 0, .nilp]) (cs := [.int .i64 u.1, rp u.2]) (.agg [.int .i64 u.1, rp u.2]) rfl rfl ro
    have l1 : ∀ {β : Type} (K : AV → List Nat → Option β), loadS 1 false (.mp st.h 0) s1 K = K (.int .i64 u.1) [st.h] := fun K => by rw [loadS_mp g1]; rfl
    have hw1 : IntKind.wrap .i64 ((i : Int) + 1) = ((i + 1 : Nat) : Int) := wrapA1 (by omega)
    have ho1 := own_keep ho k1 (fun _ _ f => f)
    have art : ∀ {β : Type} (K : Option β), asOne (rp u.2) K = K := fun K => rfl
    obtain ⟨v1, s2, x1, ho2, k2, j2, _, e2⟩ := own_fx (b := 8) [.int .i64 u.1] ho1 fun _ => room_of (by
      simp only [List.length_map, List.length_cons, List.length_nil] at hl ⊢; omega) (by omega) (by omega)
    have hW2 := (hW.keep k1).app k2 j2
    obtain ⟨v', st', e, o3, hW3⟩ := kept_loop hx hr0 hlen m (i + 1) (out ++ [u]) v1 s2 hdr hW2 (by rw [List.map_append]; exact ho2) (by simp only [List.length_append, List.length_cons, List.length_nil] at hl ⊢; omega)
    refine ⟨v', st', (loopO_inl ?_).trans e, by simpa using o3, hW3⟩
    simp only [w16_L1, unc_cons, asI_int, un0_nil, ifB_decide, if_pos q, ix, loadS_ip, tk2, unA_agg, letSt_eq, art, e1, l1, e2, letV_eq, hw1]
theorem call_kept (h : Sto st sp ow ds) (hok : ∀ d ∈ ds, DcOk d) (hl : ds.length ≤ 1000000) (nm : B) :
    ∃ v st', Own st' 1 3 v ((match docN' nm ds with | none => [] | some d => d.kept).map noV) ∧ Way st st' v ∧ ∀ {β : Type} (K : Kv β), callS (orc vE) 16 [.mp sp 0, .str nm] st K = K (.tup [v, .int .i64 (match docN' nm ds with | none => 5 | some _ => 0)]) st' ⟨[], .all st st'⟩ := by
  obtain ⟨s1, e1, k1⟩ := open_ok h hl nm
  have h1 := h.keeps k1
  have co := fun {β : Type} (K : Kv β) => call_open e1 K
  unfold docN'
  cases hf : findN nm ds 0 with
  | none =>
    rw [hf] at co
    refine ⟨.nils, s1, Own.nils h1.ro _ _, ⟨k1, (way_nils st).new⟩, fun K => callS_wide K rfl (bares_mp _ _ _ _) (wide_of ((w16_eq _ _ _).trans ?_))⟩
    simp only [w16, asS_str, co, unT_tup, nthS_zero, nthS_one, asI_int, ifB_bne, show ¬ ((5 : Int) = 0) by decide, if_false]
    rfl
  | some k =>
    rw [hf] at co
    obtain ⟨d, hd, _⟩ := find_doc hf
    have ok := hok d (List.mem_of_getElem? hd)
    simp only [Option.bind_some, hd]
    obtain ⟨x, s2, ox, wx, cv⟩ := call_versions h1 hd ok
    have hkl := kept_len d
    have hln : ∀ {β : Type} (K : Nat → Option β), lenS x K = K d.kept.length := fun K => by rw [own_len ox, List.length_map]
    have k12 := k1.trans wx.keeps
    have h2 := h1.keeps wx.keeps
    obtain ⟨v, s3, e3, o3, w3⟩ := kept_loop (st0 := st) ox h.1 (by omega) d.kept 0 [] .nils s2 rfl ⟨k12, (way_nils st).new⟩ (Own.nils h2.ro _ _) (by simp; omega)
    have e3 : loopO (w16_L1 x d.kept.length) ([.nils, .int .i64 0], s2) = _ := e3
    refine ⟨v, s3, o3, w3, fun K => callS_wide K rfl (bares_mp _ _ _ _) (wide_of ((w16_eq _ _ _).trans ?_))⟩
    simp only [w16, asS_str, co, unT_tup, nthS_zero, nthS_one, asI_int, ifB_bne, if_true, cv, hln, e3, bindO_ok, unc_cons, un0_nil]
theorem at_loop {x : AV} {l : List (Int × T)} {sx : St} (hx : Own sx 2 VT x (l.map fun v => verV (v.1, rp v.2))) (hr0 : st0.ro = 0) (hlen : l.length ≤ 1000000) (hwf : ∀ v ∈ l, v.2.size ≤ 65536) (no : Int) : ∀ (m : List (Int × T)) (i : Nat) (st : St), l.drop i = m → Keeps st0 st (fun _ => False) →
    ∃ r s n st', loopO (w17_L1 no x l.length) ([.str [], .int .i64 0, .int .i64 (i : Int)], st) = some (r, [.str s, .int .i64 n], st') ∧ Keeps st0 st' (fun _ => False) ∧ match verF no m with | none => r = 0 | some t => r = 1 ∧ s = t.text ∧ n = 0
  | [], i, st, hd, hk => by
    have := List.drop_eq_nil_iff.1 hd
    have q : ¬ (i : Int) < (l.length : Int) := by omega
    refine ⟨0, [], 0, st, loopO_inr ?_, hk, rfl⟩
    simp only [w17_L1, unc_cons, asI_int, asS_str, un0_nil, ifB_decide, if_neg q]
  | u :: m, i, st, hd, hk => by
    obtain ⟨hg, hdr, hlt⟩ := drop_cons hd
    have q : (i : Int) < (l.length : Int) := by omega
    have hg2 : (l.map fun v => verV (v.1, rp v.2))[i]? = some (verV (u.1, rp u.2)) := by rw [List.getElem?_map, hg]; rfl
    have ix : ∀ {β : Type} (K : AV → List Nat → Option β), idxA 2 x (i : Int) st K = K (.ip [.int .i64 u.1, rp u.2]) [] := fun K => own_idx hx hg2 st K
    have tk2 : ∀ {β : Type} (a b : AV) (K : AV → Option β), bindO (takeO 2 true [a, b]) K = K (.agg [a, b]) := fun _ _ _ => rfl
    have ro : st.ro ≤ st.h := by rw [hk.ro, hr0]; exact Nat.zero_le _
    obtain ⟨s1, g1, k1, n1, fx1, e1⟩ := local_var (O := orc vE) (st := st) (t := VT) (z := 2) (old := [.int .i64 0, .nilp]) (cs := [.int .i64 u.1, rp u.2]) (.agg [.int .i64 u.1, rp u.2]) rfl rfl ro
    have l1 : ∀ {β : Type} (K : AV → List Nat → Option β), loadS 1 false (.mp st.h 0) s1 K = K (.int .i64 u.1) [st.h] := fun K => by rw [loadS_mp g1]; rfl
    have l2 : ∀ {β : Type} (K : AV → List Nat → Option β), loadS 1 false (.mp st.h 1) s1 K = K (rp u.2) [st.h] := fun K => by rw [loadS_mp g1]; rfl
    have hw1 : IntKind.wrap .i64 ((i : Int) + 1) = ((i + 1 : Nat) : Int) := wrapA1 (by omega)
    have art : ∀ {β : Type} (K : Option β), asOne (rp u.2) K = K := fun K => rfl
    have hsz := hwf u (List.mem_of_getElem? hg)
    have cs := fun {β : Type} (st : St) (K : Kv β) => call_string (t := u.2) (by omega) st K
    unfold verF
    by_cases hn : u.1 = no
    · rw [if_pos hn]
      refine ⟨1, u.2.text, 0, s1, loopO_inr ?_, hk.trans k1, rfl, rfl, rfl⟩
      simp only [w17_L1, unc_cons, asI_int, asS_str, un0_nil, ifB_decide, if_pos q, ix, loadS_ip, tk2, unA_agg, letSt_eq, art, e1, l1, ifB_beq, if_pos hn, l2, cs]
    · rw [if_neg hn]
      obtain ⟨r, s, n, st', e, k3, hm⟩ := at_loop hx hr0 hlen hwf no m (i + 1) s1 hdr (hk.trans k1)
      refine ⟨r, s, n, st', (loopO_inl ?_).trans e, k3, hm⟩
      simp only [w17_L1, unc_cons, asI_int, asS_str, un0_nil, ifB_decide, if_pos q, ix, loadS_ip, tk2, unA_agg, letSt_eq, art, e1, l1, ifB_beq, if_neg hn, letV_eq, hw1]
theorem call_at (h : Sto st sp ow ds) (hok : ∀ d ∈ ds, DcOk d) (hl : ds.length ≤ 1000000) (nm : B) (no : Int) :
    ∃ st', Keeps st st' (fun _ => False) ∧ ∀ {β : Type} (K : Kv β), callS (orc vE) 17 [.mp sp 0, .str nm, .int .i64 no] st K = K (match atT ds nm no with | none => .tup [.str [], .int .i64 5] | some s => .tup [.str s, .int .i64 0]) st' ⟨[], .all st st'⟩ := by
  obtain ⟨s1, e1, k1⟩ := open_ok h hl nm
  have h1 := h.keeps k1
  have co := fun {β : Type} (K : Kv β) => call_open e1 K
  unfold atT docN'
  cases hf : findN nm ds 0 with
  | none =>
    rw [hf] at co
    refine ⟨s1, k1, fun K => callS_wide K rfl (bares_mp _ _ _ _) (wide_of ((w17_eq _ _ _ _).trans ?_))⟩
    simp only [w17, asS_str, co, unT_tup, nthS_zero, nthS_one, asI_int, ifB_bne, show ¬ ((5 : Int) = 0) by decide, if_false]
    rfl
  | some k =>
    rw [hf] at co
    obtain ⟨d, hd, _⟩ := find_doc hf
    have ok := hok d (List.mem_of_getElem? hd)
    simp only [Option.bind_some, hd]
    obtain ⟨x, s2, ox, wx, cv⟩ := call_versions h1 hd ok
    have hkl := kept_len d
    have hln : ∀ {β : Type} (K : Nat → Option β), lenS x K = K d.kept.length := fun K => by rw [own_len ox, List.length_map]
    have k12 := k1.trans wx.keeps
    obtain ⟨r, s, n, s3, e3, k3, hm⟩ := at_loop (st0 := st) ox h.1 (by omega) (fun v hv => (ok.wf v (List.mem_of_mem_drop hv)).2) no d.kept 0 s2 rfl k12
    have e3 : loopO (w17_L1 no x d.kept.length) ([.str [], .int .i64 0, .int .i64 0], s2) = _ := e3
    refine ⟨s3, k3, fun K => callS_wide K rfl (bares_mp _ _ _ _) (wide_of ((w17_eq _ _ _ _).trans ?_))⟩
    cases hv : verF no d.kept with
    | none =>
      rw [hv] at hm
      have hm : r = 0 := hm
      subst hm
      simp only [w17, asS_str, co, unT_tup, nthS_zero, nthS_one, asI_int, ifB_bne, if_true, cv, hln, e3, bindO_ok, unc_cons, un0_nil, sel2_zero, Option.map_none]
    | some t =>
      rw [hv] at hm
      obtain ⟨h1, h2, h3⟩ := hm
      subst h1; subst h2; subst h3
      simp only [w17, asS_str, co, unT_tup, nthS_zero, nthS_one, asI_int, ifB_bne, if_true, cv, hln, e3, bindO_ok, unc_cons, un0_nil, sel2_one, Option.map_some]
theorem flat_erase {z : Nat} : ∀ {es : List AV} (_ : ∀ v ∈ es, v.cells.length = z) {i : Nat}, i < es.length → flat (es.eraseIdx i) = (flat es).take (i * z) ++ (flat es).drop ((i + 1) * z)
  | [], _, _, h => by simp at h
  | u :: l, hz, 0, _ => by
    have hu := hz u (by simp)
    show flat l = (u.cells ++ flat l).take (0 * z) ++ (u.cells ++ flat l).drop ((0 + 1) * z)
    rw [Nat.zero_mul, List.take_zero, Nat.zero_add, Nat.one_mul, List.nil_append, List.drop_left' hu]
  | u :: l, hz, i + 1, h => by
    have hu := hz u (by simp)
    have ih := flat_erase (fun x hx => hz x (List.mem_cons_of_mem _ hx)) (show i < l.length by simpa using h)
    show u.cells ++ flat (l.eraseIdx i) = (u.cells ++ flat l).take ((i + 1) * z) ++ (u.cells ++ flat l).drop ((i + 1 + 1) * z)
    have e1 : (i + 1) * z = u.cells.length + i * z := by rw [hu, Nat.add_mul]; omega
    have e2 : (i + 1 + 1) * z = u.cells.length + (i + 1) * z := by rw [hu, Nat.add_mul (i + 1)]; omega
    have t : (u.cells ++ flat l).take ((i + 1) * z) = u.cells ++ (flat l).take (i * z) := by rw [e1, List.take_append, List.take_of_length_le (by omega), Nat.add_sub_cancel_left]
    rw [ih, e2, ← List.drop_drop, List.drop_left, t, List.append_assoc]
theorem map_erase {α β : Type} (f : α → β) : ∀ (l : List α) (i : Nat), (l.map f).eraseIdx i = (l.eraseIdx i).map f
  | [], _ => rfl
  | _ :: _, 0 => rfl
  | a :: l, i + 1 => congrArg (f a :: ·) (map_erase f l i)
theorem wrule_of {f : FuncId} {args : List AV} {st : St} {r : List AV → St → Res (AV × St)} {v : AV × St} (hF : vE.F f = none) (hr : vE.wrule f = some r) (h : r args st = .ok v) : (orc vE).wide f args st = some v := by
  refine orc_wide (n := 1) ?_
  simp only [caller, hF, hr, h]
theorem close_ok (h : Sto st sp ow ds) (hl : ds.length ≤ 1000000) (nm : B) :
    match findN nm ds 0 with
    | none => ∃ st', Keeps st st' (fun _ => False) ∧ ∀ {β : Type} (K : Kv β), callS (orc vE) 18 [.mp sp 0, .str nm] st K = K (.int .i64 5) st' ⟨[], .all st st'⟩
    | some i => ∃ st' ow', Sto st' sp ow' (ds.eraseIdx i) ∧ Keeps st st' (fun j => j = sp ∨ j = ow) ∧ st.h ≤ ow' ∧ ∀ {β : Type} (K : Kv β), callS (orc vE) 18 [.mp sp 0, .str nm] st K = K (.int .i64 0) st' ⟨[], .all st st'⟩ := by
  obtain ⟨s1, e1, k1⟩ := find_ok h hl nm
  have h1 := h.keeps k1
  have cf := fun {β : Type} (K : Kv β) => call_find e1 K
  unfold findI at cf
  cases hf : findN nm ds 0 with
  | none =>
    rw [hf] at cf
    have q : (-1 : Int) < 0 := by omega
    refine ⟨s1, k1, fun K => callS_wide K rfl (bares_mp _ _ _ _) (wide_of ((w18_eq _ _ _).trans ?_))⟩
    simp only [w18, asS_str, nil_mp, ifB_false, cf, asI_int, ifB_decide, if_pos q]
  | some i =>
    rw [hf] at cf
    obtain ⟨d, hd, _⟩ := find_doc hf
    have hlt : i < ds.length := by
      by_cases hi : i < ds.length
      · exact hi
      · rw [List.getElem?_eq_none (by omega)] at hd; cases hd
    obtain ⟨hg1, hw1⟩ := h1.row hd
    have q : ¬ (i : Int) < 0 := by omega
    have hw : IntKind.wrap .i64 ((i : Int) + 1) = ((i + 1 : Nat) : Int) := wrapA1 (by omega)
    have l1 : ∀ {β : Type} (K : AV → List Nat → Option β), loadS 1 false (.mp sp 0) s1 K = K (.gs ow 18 ds.length) [sp] := fun K => by rw [loadS_mp hg1]; rfl
    have hdel : (delR DT 18) [.gs ow 18 ds.length, .int .i64 (i : Int), .int .i64 ((i + 1 : Nat) : Int)] s1 = .ok (.gs s1.h 18 (ds.length - 1), ((s1.put ow .dead).add (.row (ds.length - 1) DT 18 ((flat (ds.map Dc.val)).take (i * 18) ++ (flat (ds.map Dc.val)).drop ((i + 1) * 18))))) := by
      show (do
        match ← s1.get ow with
        | .row m e' z2 cs => match (ds.length.beq m && (Nat.beq e' DT && (z2.beq 18 && (18 : Nat).beq 18))) && ((i.blt (i + 1) && (i + 1).ble ds.length) && s1.ro.ble ow) with
          | true => pure (AV.gs s1.h 18 (ds.length - (i + 1 - i)), ((s1.put ow .dead).new (.row (ds.length - (i + 1 - i)) DT 18 (cs.take (i * 18) ++ cs.drop ((i + 1) * 18)))).2)
          | false => Except.error "delete: what?"
        | _ => Except.error "delete: of what?" : Res (AV × St)) = _
      have c : ((ds.length.beq ds.length && (Nat.beq DT DT && ((18 : Nat).beq 18 && (18 : Nat).beq 18))) && ((i.blt (i + 1) && (i + 1).ble ds.length) && s1.ro.ble ow)) = true := by
        rw [Nat.beq_refl, h1.1, Nat.ble_eq_true_of_le (show i + 1 ≤ ds.length by omega), blt_true.2 (Nat.lt_succ_self i), Nat.ble_eq_true_of_le (Nat.zero_le ow)]
        rfl
      rw [hw1]
      simp only [ok_bind, c, Nat.add_sub_cancel_left, pure_eq]
      rfl
    have e2 : (orc vE).wide 37 [.gs ow 18 ds.length, .int .i64 (i : Int), .int .i64 ((i + 1 : Nat) : Int)] s1 = some _ := wrule_of rfl rfl hdel
    have cd : ∀ {β : Type} (K : Kv β), callS (orc vE) 37 [.gs ow 18 ds.length, .int .i64 (i : Int), .int .i64 ((i + 1 : Nat) : Int)] s1 K = K _ _ ⟨[], .all s1 _⟩ := fun K => callS_wide K rfl rfl e2
    rw [← flat_erase (vals_len ds) (by rw [List.length_map]; exact hlt)] at cd
    have hlm : (ds.eraseIdx i).length = ds.length - 1 := List.length_eraseIdx_of_lt hlt
    have hmap : (ds.map Dc.val).eraseIdx i = (ds.eraseIdx i).map Dc.val := map_erase _ _ _
    rw [← hlm, hmap] at cd
    have gnew : ((s1.put ow .dead).add (.row (ds.eraseIdx i).length DT 18 (flat ((ds.eraseIdx i).map Dc.val)))).get s1.h = .ok (.row (ds.eraseIdx i).length DT 18 (flat ((ds.eraseIdx i).map Dc.val))) := St.get_add_new (st := s1.put ow .dead)
    have hso : sp ≠ ow := by rintro rfl; rw [hg1] at hw1; cases hw1
    have k2 : Keeps s1 ((s1.put ow .dead).add (.row (ds.eraseIdx i).length DT 18 (flat ((ds.eraseIdx i).map Dc.val)))) (· = ow) := (Keeps.put (but := (· = ow)) rfl).trans (Keeps.add _ _ _)
    have hh : s1.h < ((s1.put ow .dead).add (.row (ds.eraseIdx i).length DT 18 (flat ((ds.eraseIdx i).map Dc.val)))).h := Nat.lt_succ_self _
    generalize (s1.put ow .dead).add (.row (ds.eraseIdx i).length DT 18 (flat ((ds.eraseIdx i).map Dc.val))) = s2 at cd gnew k2 hh
    have hg2 : s2.get sp = .ok (.cells SOT [.gs ow 18 ds.length]) := k2.of_ne hso hg1
    have hr2 : s2.ro = 0 := by rw [k2.ro, h1.1]
    obtain ⟨s3, g3, k3, n3, fx3, e3⟩ := var_put (O := orc vE) (.gs s1.h 18 (ds.eraseIdx i).length) hg2 (z := 1) (cs := [.gs s1.h 18 (ds.eraseIdx i).length]) rfl rfl (by rw [hr2]; exact Nat.zero_le _)
    have hne : s1.h ≠ sp := Nat.ne_of_gt (St.get_ok.1 hg1).1
    refine ⟨s3, s1.h, ⟨by rw [k3.ro, hr2], _, g3, .inr ⟨rfl, k3.of_ne hne gnew⟩⟩, (k1.weak fun _ f => f.elim).trans ((k2.weak fun j hj => .inr hj).trans (k3.weak fun j hj => .inl hj)), k1.h, fun K => callS_wide K rfl (bares_mp _ _ _ _) (wide_of ((w18_eq _ _ _).trans ?_))⟩
    have ag : ∀ {β : Type} (K : Option β), asOne (.gs s1.h 18 (ds.eraseIdx i).length) K = K := fun K => rfl
    simp only [w18, asS_str, nil_mp, ifB_false, cf, asI_int, ifB_decide, if_neg q, notNil_mp, chk_true, fldA_mp, Nat.add_zero, l1, letV_eq, hw, cd, ag, e3]
end
end Go.Proofs.YticccmpaekphgaaDoor.Vm
/- works: a run. -/
set_option maxRecDepth 1000000
set_option maxHeartbeats 0
namespace Go.Proofs.YticccmpaekphgaaDoor.Vm
open Go Go.VM Go.Proofs
theorem works_run : (caller vE 3000).bare 7 [] = .ok (.bool true) := by kernel_rfl
theorem works_ok : (orc vE).bare 7 [] = some (.bool true) := orc_bare works_run
theorem call_works {β : Type} (st : St) (K : Kv β) : callS (orc vE) 7 [] st K = K (.bool true) st q0 := callS_bare st K rfl rfl rfl works_ok
end Go.Proofs.YticccmpaekphgaaDoor.Vm
set_option maxRecDepth 1000000
set_option maxHeartbeats 0
namespace Go.Proofs.YticccmpaekphgaaDoor.Vm
open Go Go.VM Go.Proofs
/-- rostrum/rostrumlaw25.StoreStays -/
noncomputable def g4_L1 (v16 : AV) (v27 : AV) (n40 : Int) (v51 : AV) : Car → Option (Car ⊕ Nat × Car) := fun c61 => unc (Prod.fst c61) fun v62 l63 => asB v62 fun b64 => unc l63 fun v65 l66 => unc l66 fun v67 l68 => asI
 .i64 v67 fun n69 => un0 l68 (lenS v51 fun k70 => ifB (decide (n69 < (↑k70 : Int))) (idxA 1 v27 n40 (Prod.snd c61) fun v71 _x => loadS 1 false v71 (Prod.snd c61) fun v73 _x => asS v73 fun l75 => idxA 1 v51 n69 (Prod.snd
 c61) fun v76 _x => loadS 1 false v76 (Prod.snd c61) fun v78 _x => asI .i64 v78 fun n80 => callS (orc vE) 17 [v16, AV.str l75, AV.int .i64 n80] (Prod.snd c61) fun v81 st82 _x => unT v81 fun l84 => nthS l84 0 fun v85 =>
 asS v85 fun l86 => unT v81 fun l87 => nthS l87 1 fun v88 => asI .i64 v88 fun n89 => ifB (n89 != 0) (some (Sum.inr (1, [AV.bool false, v65], st82))) (appS 1 16 9 v65 [AV.str l86] st82 fun v90 st91 _x => letV
 (IntKind.wrap .i64 (n69 + 1)) fun n93 => some (Sum.inl ([AV.bool b64, v90, AV.int .i64 n93], st91)))) (some (Sum.inr (0, [AV.bool b64, v65], Prod.snd c61))))
noncomputable def g4_L2 (v16 : AV) (v27 : AV) : Car → Option (Car ⊕ Nat × Car) := fun c30 => unc (Prod.fst c30) fun v31 l32 => asB v31 fun b33 => unc l32 fun v34 l35 => unc l35 fun v36 l37 => unc l37 fun v38 l39 => asI
 .i64 v38 fun n40 => un0 l39 (lenS v27 fun k41 => ifB (decide (n40 < (↑k41 : Int))) (idxA 1 v27 n40 (Prod.snd c30) fun v42 _x => loadS 1 false v42 (Prod.snd c30) fun v44 _x => asS v44 fun l46 => callS (orc vE) 16 [v16,
 AV.str l46] (Prod.snd c30) fun v47 st48 _x => unT v47 fun l50 => nthS l50 0 fun v51 => unT v47 fun l52 => nthS l52 1 fun v53 => asI .i64 v53 fun n54 => bindO (ifB (n54 != 0) (some ([AV.bool true], st48)) (lenS v51 fun
 k55 => ifB ((↑k55 : Int) == 0) (some ([AV.bool true], st48)) (lenS v51 fun k56 => some ([AV.bool (decide ((↑k56 : Int) > 8))], st48)))) fun c57 => unc (Prod.fst c57) fun v58 l59 => asB v58 fun b60 => un0 l59 (ifB b60
 (some (Sum.inr (1, [AV.bool false, v34, v36], Prod.snd c57))) (bindO (loopO (g4_L1 v16 v27 n40 v51) ([AV.bool b33, AV.nils, AV.int .i64 0], Prod.snd c57)) fun c94 => unc (Prod.fst (Prod.snd c94)) fun v95 l96 => asB v95
 fun b97 => unc l96 fun v98 l99 => un0 l99 (sel2 (Prod.fst c94) (asOne v51 (asOne v51 (fit1 v51 fun v100 => fit1 v100 fun v101 => chk (sizesOk 1 [v101]) (appS 1 24 43 v34 [v101] (Prod.snd (Prod.snd c94)) fun v102 st103
 _x => asOne v98 (asOne v98 (fit1 v98 fun v105 => fit1 v105 fun v106 => chk (sizesOk 1 [v106]) (appS 1 24 39 v36 [v106] st103 fun v107 st108 _x => letV (IntKind.wrap .i64 (n40 + 1)) fun n110 => some (Sum.inl ([AV.bool
 b97, v102, v107, AV.int .i64 n110], st108))))))))) fun _x => some (Sum.inr (1, [AV.bool b97, v34, v36], Prod.snd (Prod.snd c94))))))) (some (Sum.inr (0, [AV.bool b33, v34, v36], Prod.snd c30))))
noncomputable def g4_L3 (v16 : AV) (v27 : AV) (v116 : AV) (v118 : AV) (n213 : Int) (b242 : Bool) : Car → Option (Car ⊕ Nat × Car) := fun c267 => unc (Prod.fst c267) fun v268 l269 => asB v268 fun b270 => unc l269 fun
 v271 l272 => asI .i64 v271 fun n273 => un0 l272 (idxA 1 v116 n213 (Prod.snd c267) fun v274 _x => loadS 1 false v274 (Prod.snd c267) fun v276 _x => lenS v276 fun k278 => ifB (decide (n273 < (↑k278 : Int))) (idxA 1 v27
 n213 (Prod.snd c267) fun v279 _x => loadS 1 false v279 (Prod.snd c267) fun v281 _x => asS v281 fun l283 => idxA 1 v116 n213 (Prod.snd c267) fun v284 _x => loadS 1 false v284 (Prod.snd c267) fun v286 _x => idxA 1 v286
 n273 (Prod.snd c267) fun v288 _x => loadS 1 false v288 (Prod.snd c267) fun v290 _x => asI .i64 v290 fun n292 => callS (orc vE) 17 [v16, AV.str l283, AV.int .i64 n292] (Prod.snd c267) fun v293 st294 _x => unT v293 fun
 l296 => nthS l296 0 fun v297 => asS v297 fun l298 => unT v293 fun l299 => nthS l299 1 fun v300 => asI .i64 v300 fun n301 => bindO (ifB (n301 == 0) (idxA 1 v118 n213 st294 fun v302 _x => loadS 1 false v302 st294 fun v304
 _x => idxA 1 v304 n273 st294 fun v306 _x => loadS 1 false v306 st294 fun v308 _x => asS v308 fun l310 => ifB (!l298 == l310) (some ([AV.bool true], st294)) (ifB (n301 != 0) (some ([AV.bool !b242], st294)) (some
 ([AV.bool false], st294)))) (ifB (n301 != 0) (some ([AV.bool !b242], st294)) (some ([AV.bool false], st294)))) fun c311 => unc (Prod.fst c311) fun v312 l313 => asB v312 fun b314 => un0 l313 (ifB b314 (some (Sum.inr (1,
 [AV.bool false], Prod.snd c311))) (letV (IntKind.wrap .i64 (n273 + 1)) fun n315 => some (Sum.inl ([AV.bool b270, AV.int .i64 n315], Prod.snd c311))))) (some (Sum.inr (0, [AV.bool b270], Prod.snd c267))))
noncomputable def g4_L4 (x0 : AV) (v16 : AV) (n25 : Int) (v27 : AV) (v116 : AV) (v118 : AV) (n193 : Int) : Car → Option (Car ⊕ Nat × Car) := fun c207 => unc (Prod.fst c207) fun v208 l209 => asB v208 fun b210 => unc l209
 fun v211 l212 => asI .i64 v211 fun n213 => un0 l212 (lenS v27 fun k214 => ifB (decide (n213 < (↑k214 : Int))) (idxA 1 v27 n213 (Prod.snd c207) fun v215 _x => loadS 1 false v215 (Prod.snd c207) fun v217 _x => asS v217
 fun l219 => callS (orc vE) 16 [v16, AV.str l219] (Prod.snd c207) fun v220 st221 _x => unT v220 fun l223 => nthS l223 0 fun v224 => unT v220 fun l225 => nthS l225 1 fun v226 => asI .i64 v226 fun n227 => bindO (idxA 1 v27
 n213 st221 fun v228 _x => loadS 1 false v228 st221 fun v230 _x => asS v230 fun l232 => idxA 5 x0 n25 st221 fun v233 _x => fldA 1 v233 fun v235 => loadS 1 false v235 st221 fun v236 _x => asS v236 fun l238 => ifB (l232 ==
 l238) (some ([AV.bool (n193 == 0)], st221)) (some ([AV.bool false], st221))) fun c239 => unc (Prod.fst c239) fun v240 l241 => asB v240 fun b242 => un0 l241 (bindO (ifB (!b242) (ifB (n227 != 0) (some ([AV.bool true],
 Prod.snd c239)) (idxA 1 v116 n213 (Prod.snd c239) fun v243 _x => loadS 1 false v243 (Prod.snd c239) fun v245 _x => callS (orc vE) 20 [v224, v245] (Prod.snd c239) fun v247 st248 _x => asB v247 fun b250 => ifB (!b250)
 (some ([AV.bool true], st248)) (ifB b242 (idxA 5 x0 n25 st248 fun v251 _x => fldA 0 v251 fun v253 => loadS 1 false v253 st248 fun v254 _x => asI .u8 v254 fun n256 => ifB (n256 == 2) (some ([AV.bool (n227 != 5)], st248))
 (some ([AV.bool false], st248))) (some ([AV.bool false], st248))))) (ifB b242 (idxA 5 x0 n25 (Prod.snd c239) fun v257 _x => fldA 0 v257 fun v259 => loadS 1 false v259 (Prod.snd c239) fun v260 _x => asI .u8 v260 fun n262
 => ifB (n262 == 2) (some ([AV.bool (n227 != 5)], Prod.snd c239)) (some ([AV.bool false], Prod.snd c239))) (some ([AV.bool false], Prod.snd c239)))) fun c263 => unc (Prod.fst c263) fun v264 l265 => asB v264 fun b266 =>
 un0 l265 (ifB b266 (some (Sum.inr (1, [AV.bool false], Prod.snd c263))) (bindO (loopO (g4_L3 v16 v27 v116 v118 n213 b242) ([AV.bool b210, AV.int .i64 0], Prod.snd c263)) fun c316 => unc (Prod.fst (Prod.snd c316)) fun
 v317 l318 => asB v317 fun b319 => un0 l318 (sel2 (Prod.fst c316) (letV (IntKind.wrap .i64 (n213 + 1)) fun n320 => some (Sum.inl ([AV.bool b319, AV.int .i64 n320], Prod.snd (Prod.snd c316)))) fun _x => some (Sum.inr (1,
 [AV.bool b319], Prod.snd (Prod.snd c316)))))))) (some (Sum.inr (0, [AV.bool b210], Prod.snd c207))))
noncomputable def g4_L5 (x0 : AV) (v16 : AV) : Car → Option (Car ⊕ Nat × Car) := fun c19 => unc (Prod.fst c19) fun v20 l21 => asB v20 fun b22 => unc l21 fun v23 l24 => asI .i64 v23 fun n25 => un0 l24 (lenS x0 fun k26 =>
 ifB (decide (n25 < (↑k26 : Int))) (callS (orc vE) 15 [v16] (Prod.snd c19) fun v27 st28 _x => bindO (loopO (g4_L2 v16 v27) ([AV.bool b22, AV.nils, AV.nils, AV.int .i64 0], st28)) fun c112 => unc (Prod.fst (Prod.snd
 c112)) fun v113 l114 => asB v113 fun b115 => unc l114 fun v116 l117 => unc l117 fun v118 l119 => un0 l119 (sel2 (Prod.fst c112) (idxA 5 x0 n25 (Prod.snd (Prod.snd c112)) fun v120 _x => fldA 0 v120 fun v122 => loadS 1
 false v122 (Prod.snd (Prod.snd c112)) fun v123 _x => asI .u8 v123 fun n125 => bindO (ifB (n125 == 0) (idxA 5 x0 n25 (Prod.snd (Prod.snd c112)) fun v126 _x => fldA 1 v126 fun v128 => loadS 1 false v128 (Prod.snd
 (Prod.snd c112)) fun v129 _x => asS v129 fun l131 => idxA 5 x0 n25 (Prod.snd (Prod.snd c112)) fun v132 _x => fldA 2 v132 fun v134 => loadS 1 false v134 (Prod.snd (Prod.snd c112)) fun v135 _x => asI .i64 v135 fun n137 =>
 idxA 5 x0 n25 (Prod.snd (Prod.snd c112)) fun v138 _x => fldA 3 v138 fun v140 => loadS 1 false v140 (Prod.snd (Prod.snd c112)) fun v141 _x => asS v141 fun l143 => callS (orc vE) 10 [v16, AV.str l131, AV.int .i64 n137,
 AV.str l143] (Prod.snd (Prod.snd c112)) fun v144 st145 _x => asI .i64 v144 fun n147 => some ([AV.int .i64 n147], st145)) (bindO (ifB (n125 == 1) (idxA 5 x0 n25 (Prod.snd (Prod.snd c112)) fun v148 l149 => fldA 1 v148 fun
 v150 => loadS 1 false v150 (Prod.snd (Prod.snd c112)) fun v151 l152 => asS v151 fun l153 => idxA 5 x0 n25 (Prod.snd (Prod.snd c112)) fun v154 l155 => fldA 2 v154 fun v156 => loadS 1 false v156 (Prod.snd (Prod.snd c112))
 fun v157 l158 => asI .i64 v157 fun n159 => idxA 5 x0 n25 (Prod.snd (Prod.snd c112)) fun v160 _x => fldA 4 v160 fun v162 => loadS 1 false v162 (Prod.snd (Prod.snd c112)) fun v163 _x => callS (orc vE) 12 [v163] (Prod.snd
 (Prod.snd c112)) fun v165 st166 x167 => chk (apart (Fx.mk l158 Did.kept) x167 && (apart (Fx.mk [] Did.kept) x167 && (apart (Fx.mk l155 Did.kept) x167 && (apart (Fx.mk [] Did.kept) x167 && (apart (Fx.mk [] Did.kept) x167
 && (apart (Fx.mk l152 Did.kept) x167 && (apart (Fx.mk [] Did.kept) x167 && (apart (Fx.mk l149 Did.kept) x167 && (apart (Fx.mk [] Did.kept) x167 && (apart (Fx.mk [] Did.kept) x167 && (apart (Fx.mk [] Did.kept) x167 &&
 true))))))))))) (callS (orc vE) 11 [v16, AV.str l153, AV.int .i64 n159, v165] st166 fun v168 st169 _x => asI .i64 v168 fun n171 => some ([AV.int .i64 n171], st169))) (bindO (ifB (n125 == 2) (idxA 5 x0 n25 (Prod.snd
 (Prod.snd c112)) fun v172 _x => fldA 1 v172 fun v174 => loadS 1 false v174 (Prod.snd (Prod.snd c112)) fun v175 _x => asS v175 fun l177 => callS (orc vE) 18 [v16, AV.str l177] (Prod.snd (Prod.snd c112)) fun v178 st179 _x
 => asI .i64 v178 fun n181 => some ([AV.int .i64 n181], st179)) (some ([AV.int .i64 5], Prod.snd (Prod.snd c112)))) fun c182 => unc (Prod.fst c182) fun v183 l184 => asI .i64 v183 fun n185 => un0 l184 (some ([AV.int .i64
 n185], Prod.snd c182)))) fun c186 => unc (Prod.fst c186) fun v187 l188 => asI .i64 v187 fun n189 => un0 l188 (some ([AV.int .i64 n189], Prod.snd c186)))) fun c190 => unc (Prod.fst c190) fun v191 l192 => asI .i64 v191
 fun n193 => un0 l192 (callS (orc vE) 15 [v16] (Prod.snd c190) fun v194 st195 _x => bindO (ifB (n193 != 0) (callS (orc vE) 19 [v27, v194] st195 fun v197 st198 _x => asB v197 fun b200 => ifB (!b200) (some ([AV.bool true],
 st198)) (lenS v194 fun k201 => some ([AV.bool (decide ((↑k201 : Int) > 32))], st198))) (lenS v194 fun k202 => some ([AV.bool (decide ((↑k202 : Int) > 32))], st195))) fun c203 => unc (Prod.fst c203) fun v204 l205 => asB
 v204 fun b206 => un0 l205 (ifB b206 (some (Sum.inr (1, [AV.bool false], Prod.snd c203))) (bindO (loopO (g4_L4 x0 v16 n25 v27 v116 v118 n193) ([AV.bool b115, AV.int .i64 0], Prod.snd c203)) fun c322 => unc (Prod.fst
 (Prod.snd c322)) fun v323 l324 => asB v323 fun b325 => un0 l324 (sel2 (Prod.fst c322) (letV (IntKind.wrap .i64 (n25 + 1)) fun n326 => some (Sum.inl ([AV.bool b325, AV.int .i64 n326], Prod.snd (Prod.snd c322)))) fun _x
 => some (Sum.inr (1, [AV.bool b325], Prod.snd (Prod.snd c322)))))))) fun _x => some (Sum.inr (1, [AV.bool b115], Prod.snd (Prod.snd c112))))) (some (Sum.inr (0, [AV.bool b22], Prod.snd c19))))
noncomputable def g4 : AV → Option AV := fun x0 => bindO (callS (orc vE) 7 [] (St.mk 0 0 Tr.leaf) fun v0 st1 _x => asB v0 fun b3 => ifB (!b3) (some ([AV.bool true], st1)) (callS (orc vE) 8 [x0] st1 fun v4 st5 _x => asB
 v4 fun b7 => some ([AV.bool b7], st5))) fun c8 => unc (Prod.fst c8) fun v9 l10 => asB v9 fun b11 => un0 l10 (ifB b11 (callS (orc vE) 7 [] (Prod.snd c8) fun v12 _x _x_1 => asB v12 fun b15 => some (AV.bool b15)) (callS
 (orc vE) 9 [] (Prod.snd c8) fun v16 st17 _x => bindO (loopO (g4_L5 x0 v16) ([AV.bool false, AV.int .i64 0], st17)) fun c329 => unc (Prod.fst (Prod.snd c329)) fun v330 l331 => asB v330 fun b332 => un0 l331 (sel2
 (Prod.fst c329) (some (AV.bool true)) fun _x => some (AV.bool b332))))
end Go.Proofs.YticccmpaekphgaaDoor.Vm
/- texts, ints; what stays: the inner loops. -/
set_option maxRecDepth 100000
set_option linter.unusedSimpArgs false
set_option maxHeartbeats 1000000
namespace Go.Proofs.YticccmpaekphgaaDoor.Vm
open Go Go.VM Go.Proofs Go.Store Go.Lib T

theorem callS_strip {β : Type} {E : Env} {f : FuncId} {args args' : List AV} {v : AV} (st : St) (K : Kv β) (hf : E.full f = false) (hs : args.map strip = args') (hb : bares args' = true) (h : (orc E).bare f args' = some v) :
    callS (orc E) f args st K = K v st q0 := by
  have h1 : (bares (args.map strip) && !(orc E).full f) = true := by
    rw [hs, hb]
    show (true && !E.full f) = true
    rw [hf]; rfl
  unfold callS outS callO
  rw [h1, hs, h]
  rfl
theorem own_strip {st : St} {z : Nat} {e : TypeId} {v : AV} {es : List AV} (h : Own st z e v es) : ∃ x, strip v = x ∧ IsSl z x es := by
  rcases h with ⟨_, hl, ⟨rfl | rfl, rfl⟩ | rfl | ⟨k, rfl, _, _⟩⟩
  · exact ⟨.nils, rfl, IsSl.nils⟩
  · exact ⟨.es, rfl, IsSl.emp⟩
  · exact ⟨.sl z es .shut, rfl, IsSl.shut hl⟩
  · exact ⟨.sl z es .wide, rfl, IsSl.wide hl⟩
section
variable {x y : AV}
theorem tl1 {β : Type} (v : AV) (l : List AV) (K : AV → Option β) : bindO (takeO 1 false (v :: l)) K = K v := rfl
def inV (n : Int) : AV := .int .i64 n
theorem ints_loop {a b : List Int} (hx : IsSl 1 x (a.map inV)) (hy : IsSl 1 y (b.map inV)) (hl : a.length = b.length) (st : St) : ∀ (m : List Int) (i : Nat), a.drop i = m →
    ∃ r c, loopO (g20_L1 x y) ([.bool false, .int .i64 (i : Int)], st) = some (r, [.bool c], st) ∧ (m = b.drop i → r = 0) ∧ (m ≠ b.drop i → r = 1 ∧ c = false)
  | [], i, hd => by
    have := List.drop_eq_nil_iff.1 hd
    have q : ¬ (i : Int) < ((a.map inV).length : Int) := by rw [List.length_map]; omega
    refine ⟨0, false, loopO_inr ?_, fun _ => rfl, fun h => absurd (List.drop_eq_nil_iff.2 (by omega)).symm h⟩
    simp only [g20_L1, unc_cons, asI_int, asB_bool, un0_nil, hx.len, ifB_decide, if_neg q]
  | u :: m, i, hd => by
    obtain ⟨hg, hdr, hlt⟩ := drop_cons hd
    have q : (i : Int) < ((a.map inV).length : Int) := by rw [List.length_map]; omega
    obtain ⟨w, hw⟩ : ∃ w, b[i]? = some w := ⟨b[i], List.getElem?_eq_getElem (by omega)⟩
    have hbd : b.drop i = w :: b.drop (i + 1) := by
      have hi : i < b.length := by omega
      rw [List.drop_eq_getElem_cons hi]
      rw [List.getElem?_eq_getElem hi] at hw
      cases hw; rfl
    have hx2 : (a.map inV)[i]? = some (inV u) := by rw [List.getElem?_map, hg]; rfl
    have hy2 : (b.map inV)[i]? = some (inV w) := by rw [List.getElem?_map, hw]; rfl
    have ix : ∀ {β : Type} (K : AV → List Nat → Option β), idxA 1 x (i : Int) st K = K (.ip [.int .i64 u]) [] := fun K => hx.idx hx2 st K
    have iy : ∀ {β : Type} (K : AV → List Nat → Option β), idxA 1 y (i : Int) st K = K (.ip [.int .i64 w]) [] := fun K => hy.idx hy2 st K
    have hw1 : IntKind.wrap .i64 ((i : Int) + 1) = ((i + 1 : Nat) : Int) := wrapA1 (by have := hx.1; rw [List.length_map] at this; omega)
    by_cases huw : u = w
    · obtain ⟨r, c, e, h1, h2⟩ := ints_loop hx hy hl st m (i + 1) hdr
      refine ⟨r, c, (loopO_inl ?_).trans e, fun h => h1 ?_, fun h => h2 fun h' => h ?_⟩
      · simp only [g20_L1, unc_cons, asI_int, asB_bool, un0_nil, hx.len, ifB_decide, if_pos q, ix, iy, loadS_ip, tl1, ifB_bne, if_pos huw, letV_eq, hw1]
      · rw [hbd] at h; injection h
      · rw [hbd, h', huw]
    · refine ⟨1, false, loopO_inr ?_, fun h => ?_, fun _ => ⟨rfl, rfl⟩⟩
      · simp only [g20_L1, unc_cons, asI_int, asB_bool, un0_nil, hx.len, ifB_decide, if_pos q, ix, iy, loadS_ip, tl1, ifB_bne, if_neg huw]
      · rw [hbd] at h; injection h with h _; exact absurd h huw
theorem ints_ok {a b : List Int} (hx : IsSl 1 x (a.map inV)) (hy : IsSl 1 y (b.map inV)) : (orc vE).bare 20 [x, y] = some (.bool (decide (a = b))) := by
  refine bare_of rfl ((g20_eq _ _).trans ?_)
  by_cases hl : a.length = b.length
  · obtain ⟨r, c, e, h1, h2⟩ := ints_loop hx hy hl (St.mk 0 0 Tr.leaf) a 0 rfl
    have e : loopO (g20_L1 x y) ([.bool false, .int .i64 0], St.mk 0 0 Tr.leaf) = _ := e
    have q : ((a.map inV).length : Int) = ((b.map inV).length : Int) := by rw [List.length_map, List.length_map, hl]
    by_cases hab : a = b
    · have hr := h1 hab
      subst hr
      simp only [g20, hx.len, hy.len, ifB_bne, if_pos q, e, bindO_ok, unc_cons, asB_bool, un0_nil, sel2_zero, decide_eq_true hab]
    · obtain ⟨hr, hc⟩ := h2 hab
      subst hr; subst hc
      simp only [g20, hx.len, hy.len, ifB_bne, if_pos q, e, bindO_ok, unc_cons, asB_bool, un0_nil, sel2_one, decide_eq_false hab]
  · have q : ¬ ((a.map inV).length : Int) = ((b.map inV).length : Int) := by rw [List.length_map, List.length_map]; omega
    have hab : a ≠ b := fun h => hl (by rw [h])
    simp only [g20, hx.len, hy.len, ifB_bne, if_neg q, decide_eq_false hab]
theorem call_ints {s1 : St} {e1 : TypeId} {a b : List Int} (hx : Own s1 1 e1 x (a.map inV)) (hy : IsSl 1 y (b.map inV)) {β : Type} (st : St) (K : Kv β) : callS (orc vE) 20 [x, y] st K = K (.bool (decide (a = b))) st q0 := by
  obtain ⟨u, hu, hu2⟩ := own_strip hx
  exact callS_strip st K rfl (by simp only [List.map_cons, List.map_nil, hu, hy.strip]) (by simp only [bares_cons, hu2.bare, hy.bare]; rfl) (ints_ok hu2 hy)
end
/-- Slices, one for each document. -/
def Rows (f : Dc → List AV) (out : List Dc) (W : List AV) : Prop := W.length = out.length ∧ ∀ (k : Nat) (d : Dc), out[k]? = some d → ∃ x : AV, W[k]? = some x ∧ IsSl 1 x (f d)
section
variable {st0 st st' sn : St} {sp ow : Nat} {ds : List Dc} {v27 : AV}
end
end Go.Proofs.YticccmpaekphgaaDoor.Vm
set_option maxRecDepth 1000000
set_option maxHeartbeats 0
namespace Go.Proofs.YticccmpaekphgaaDoor.Vm
open Go Go.VM Go.Proofs
/-- rostrum/rostrumlaw25.StoreParts -/
noncomputable def g3_L1 (x1 : AV) (v23 : AV) : Car → Option (Car ⊕ Nat × Car) := fun c45 => unc (Prod.fst c45) fun v46 l47 => asI .i64 v46 fun n48 => unc l47 fun v49 l50 => asI .i64 v49 fun n51 => un0 l50 (bindO (lenS
 x1 fun k52 => ifB (decide (n51 < (↑k52 : Int))) (some ([AV.bool (n48 == 0)], Prod.snd c45)) (some ([AV.bool false], Prod.snd c45))) fun c53 => unc (Prod.fst c53) fun v54 l55 => asB v54 fun b56 => un0 l55 (ifB b56 (letV
 (IntKind.wrap .i64 (n51 + 1)) fun n57 => letV (IntKind.wrap .i64 (n51 + 1)) fun n58 => sliceS 6 x1 (some n51) (some n58) none fun v59 => callS (orc vE) 12 [v59] (Prod.snd c53) fun v60 st61 _x => callS (orc vE) 11 [v23,
 AV.str [100], AV.int .i64 n57, v60] st61 fun v63 st64 _x => asI .i64 v63 fun n66 => letV (IntKind.wrap .i64 (n51 + 1)) fun n67 => some (Sum.inl ([AV.int .i64 n66, AV.int .i64 n67], st64))) (some (Sum.inr (0, [AV.int
 .i64 n48], Prod.snd c53)))))
noncomputable def g3 : AV → AV → Option AV := fun x0 x1 => asS x0 fun l0 => bindO (callS (orc vE) 7 [] (St.mk 0 0 Tr.leaf) fun v1 st2 _x => asB v1 fun b4 => ifB (!b4) (some ([AV.bool true], st2)) (ifB (decide
 ((↑(List.length l0) : Int) > 3000)) (some ([AV.bool true], st2)) (asOne x1 (asOne x1 (asOne x1 (fit1 x1 fun v6 => callS (orc vE) 8 [AV.sl 5 [AV.agg [AV.int .u8 0, AV.str [], AV.int .i64 0, AV.str [], v6]] Perm.shut] st2
 fun v7 st8 _x => asB v7 fun b10 => ifB b10 (some ([AV.bool true], st8)) (lenS x1 fun k11 => some ([AV.bool (decide ((↑k11 : Int) > 40))], st8)))))))) fun c12 => unc (Prod.fst c12) fun v13 l14 => asB v13 fun b15 => un0
 l14 (ifB b15 (callS (orc vE) 7 [] (Prod.snd c12) fun v16 _x _x_1 => asB v16 fun b19 => some (AV.bool b19)) (callS (orc vE) 9 [] (Prod.snd c12) fun v20 st21 _x => callS (orc vE) 9 [] st21 fun v23 st24 _x => callS (orc
 vE) 10 [v20, AV.str [100], AV.int .i64 0, AV.str l0] st24 fun v26 st27 _x => asI .i64 v26 fun n29 => callS (orc vE) 10 [v23, AV.str [100], AV.int .i64 0, AV.str l0] st27 fun v30 st31 _x => asI .i64 v30 fun n33 => bindO
 (ifB (n29 != n33) (some ([AV.bool true], st31)) (some ([AV.bool (n29 != 0)], st31))) fun c34 => unc (Prod.fst c34) fun v35 l36 => asB v35 fun b37 => un0 l36 (ifB b37 (some (AV.bool (n29 == n33))) (callS (orc vE) 12 [x1]
 (Prod.snd c34) fun v38 st39 _x => callS (orc vE) 11 [v20, AV.str [100], AV.int .i64 1, v38] st39 fun v41 st42 _x => asI .i64 v41 fun n44 => bindO (loopO (g3_L1 x1 v23) ([AV.int .i64 0, AV.int .i64 0], st42)) fun c68 =>
 unc (Prod.fst (Prod.snd c68)) fun v69 l70 => asI .i64 v69 fun n71 => un0 l70 (ifB (n44 != n71) (some (AV.bool false)) (ifB (n44 != 0) (callS (orc vE) 13 [v20, AV.str [100], AV.int .i64 0, AV.str l0] (Prod.snd (Prod.snd
 c68)) fun v72 _x _x_1 => asB v72 fun b75 => some (AV.bool b75)) (callS (orc vE) 14 [v20, AV.str [100]] (Prod.snd (Prod.snd c68)) fun v76 st77 _x => unT v76 fun l79 => nthS l79 0 fun v80 => asI .i64 v80 fun _x => unT v76
 fun l82 => nthS l82 1 fun v83 => asS v83 fun l84 => unT v76 fun l85 => nthS l85 2 fun v86 => asI .i64 v86 fun n87 => callS (orc vE) 14 [v23, AV.str [100]] st77 fun v88 st89 _x => unT v88 fun l91 => nthS l91 0 fun v92 =>
 asI .i64 v92 fun _x => unT v88 fun l94 => nthS l94 1 fun v95 => asS v95 fun l96 => unT v88 fun l97 => nthS l97 2 fun v98 => asI .i64 v98 fun n99 => bindO (ifB (n87 == 0) (ifB (n99 == 0) (some ([AV.bool (l84 == l96)],
 st89)) (some ([AV.bool false], st89))) (some ([AV.bool false], st89))) fun c100 => unc (Prod.fst c100) fun v101 l102 => asB v101 fun b103 => un0 l102 (some (AV.bool b103)))))))))
end Go.Proofs.YticccmpaekphgaaDoor.Vm
/- The law: changes in one Change, or each in its own. -/
set_option maxRecDepth 100000
set_option linter.unusedSimpArgs false
set_option maxHeartbeats 4000000
namespace Go.Proofs.YticccmpaekphgaaDoor.Vm
open Go Go.VM Go.Proofs Go.Store Go.Lib T

section
variable {st st' : St} {sp ow : Nat} {ds : List Dc}
theorem call_new (st : St) (hr : st.ro = 0) : ∃ st', Sto st' st.h st.h [] ∧ Keeps st st' (fun _ => False) ∧ st.h < st'.h ∧ ∀ {β : Type} (K : Kv β), callS (orc vE) 9 [] st K = K (.mp st.h 0) st' ⟨[], .all st st'⟩ := by
  obtain ⟨st', e, h, k, hl⟩ := new_store st hr
  exact ⟨st', h, k, hl, fun K => callS_wide K rfl rfl e⟩
theorem call_openS {s1 : St} {nm : B} {no : Int} {tx : B} {r : AV} (e : (orc vE).wide 10 [.mp sp 0, .str nm, .int .i64 no, .str tx] st = some (r, s1)) {β : Type} (K : Kv β) : callS (orc vE) 10 [.mp sp 0, .str nm, .int .i64 no, .str tx] st K = K r s1 ⟨[], .all st s1⟩ := callS_wide K rfl (bares_mp _ _ _ _) e
theorem call_changeS {s1 : St} {nm : B} {no : Int} {x r : AV} (e : (orc vE).wide 11 [.mp sp 0, .str nm, .int .i64 no, x] st = some (r, s1)) {β : Type} (K : Kv β) : callS (orc vE) 11 [.mp sp 0, .str nm, .int .i64 no, x] st K = K r s1 ⟨[], .all st s1⟩ := callS_wide K rfl (bares_mp _ _ _ _) e
end
theorem badN_ok {n : Int} (h0 : 0 ≤ n) (h1 : n ≤ 2147483647) : badN n = false := by
  unfold badN
  rw [decide_eq_false (by omega), decide_eq_false (by omega)]; rfl
end Go.Proofs.YticccmpaekphgaaDoor.Vm
/- The law: what stays. -/
set_option maxRecDepth 100000
set_option linter.unusedSimpArgs false
set_option maxHeartbeats 4000000
namespace Go.Proofs.YticccmpaekphgaaDoor.Vm
open Go Go.VM Go.Proofs Go.Store Go.Lib T

section
variable {st0 st st' sn : St} {sp ow : Nat} {ds ds' : List Dc} {v27 v116 v118 : AV}
theorem openE_zero {ds : List Dc} {nm : B} {no : Int} {tx : B} (h : openE ds nm no tx = 0) : findN nm ds 0 = none ∧ ds.length < 32 ∧ badN no = false ∧ tx.length ≤ 65536 := by
  unfold openE at h
  split at h
  · cases h
  · rename_i hf
    split at h
    · cases h
    · split at h
      · cases h
      · split at h
        · cases h
        · rename_i h1 h2 h3
          exact ⟨hf, by omega, by simpa using h2, by omega⟩
theorem changeE_ok {ds : List Dc} {nm : B} {no : Int} {cs : List Chg} {i : Nat} {u : B} (h : changeE ds nm no cs = .ok (i, u)) : findN nm ds 0 = some i ∧ badN no = false ∧ ∃ d v, ds[i]? = some d ∧ d.vs.getLast? = some v ∧ v.1 < no := by
  unfold changeE at h
  split at h
  · cases h
  · rename_i i' hf
    split at h
    · cases h
    · rename_i hb
      split at h
      · cases h
      · rename_i v hv
        split at h
        · cases h
        · rename_i hno
          split at h
          · cases h
          · cases h
            obtain ⟨d, hd, hv⟩ := Option.bind_eq_some_iff.1 hv
            exact ⟨hf, by simpa using hb, d, v, hd, hv, by omega⟩
theorem Goes.inl {σ β : Type} {F : σ → Option (Sum σ β)} {s : σ} {Q : β → Prop} (h : Goes (F s) fun r => ∃ s', r = .inl s' ∧ Goes (loopO F s') Q) : Goes (loopO F s) Q := by
  obtain ⟨r, e, s', rfl, g⟩ := h
  exact Goes.step (loopO_inl e) g
end
end Go.Proofs.YticccmpaekphgaaDoor.Vm
/- Calls of a store, one behind the other; texts of many bytes. -/
set_option maxRecDepth 100000
set_option linter.unusedSimpArgs false
set_option maxHeartbeats 1000000
namespace Go.Proofs.YticccmpaekphgaaDoor.Vm
open Go Go.VM Go.Proofs Go.Store Go.Lib T

def rep (n : Nat) (s : B) : B := (List.replicate n s).flatten
theorem rep_succ (n : Nat) (s : B) : rep (n + 1) s = rep n s ++ s := by
  unfold rep
  rw [List.replicate_succ', List.flatten_append, List.flatten_singleton]
theorem rep_len (n : Nat) (s : B) : (rep n s).length = n * s.length := by
  induction n with
  | zero => simp [rep]
  | succ n ih => rw [rep_succ, List.length_append, ih, Nat.add_mul, Nat.one_mul]
theorem rep_one (n : Nat) (c : UInt8) : rep n [c] = List.replicate n c := by
  induction n with
  | zero => rfl
  | succ n ih => rw [rep_succ, ih, List.replicate_succ']
theorem many_make {n : Nat} (h : n ≤ 1000000) : makeSliceP (Env.T vE) 91 (.int .i64 0) (.int .i64 (n : Int)) = .ok (.new (.tok 0 5) fun k => .sl 1 [] (.own k)) := by
  have e1 : ti (Env.T vE) 91 = .ok ⟨.slice 5, 1, 24, [.nils], false, false⟩ := rfl
  have e2 : ti (Env.T vE) 5 = .ok ⟨.int .u8, 1, 1, [.int .u8 0], false, false⟩ := rfl
  have c : (Nat.ble 0 n && Nat.ble (n * 1) 16777216 && Nat.ble (1 * n) 281474976710656 && Nat.ble n 9223372036854775807 && Nat.ble 1 1) = true := by
    rw [Nat.ble_eq_true_of_le (Nat.zero_le n), Nat.ble_eq_true_of_le (show n * 1 ≤ 16777216 by omega), Nat.ble_eq_true_of_le (show 1 * n ≤ 281474976710656 by omega), Nat.ble_eq_true_of_le (show n ≤ 9223372036854775807 by omega)]; rfl
  have h0 : makeSliceP (Env.T vE) 91 (.int .i64 0) (.int .i64 (n : Int)) = (do let it ← ti (Env.T vE) 91; match it.und, AV.int .i64 (Int.ofNat 0), AV.int .i64 (Int.ofNat n) with
    | .slice e, .int _ (.ofNat l), .int _ (.ofNat c) => do
      let i ← ti (Env.T vE) e
      match l.ble c && (c * i.size).ble 16777216 && (i.bytes * c).ble 281474976710656 && c.ble 9223372036854775807 && Nat.ble 1 i.size with
      | true => match l.beq 0 with
        | true => pure (Plan.new (.tok 0 e) fun k => .sl i.size [] (.own k))
        | false => pure (Plan.new (.cells e (zeros i.zero c)) fun k => .ms k 0 i.size l c)
      | false => .error "make: size"
    | _, _, _ => .error "make: what?" : Res Plan) := rfl
  rw [h0]
  simp only [e1, e2, ok_bind, c]
  rfl
theorem many_conv (s : B) (p : Perm) : convertP (Env.T vE) 91 9 (.sl 1 (ofBytes s) p) = .ok (.val (.str s)) := by
  have e1 : ti (Env.T vE) 91 = .ok ⟨.slice 5, 1, 24, [.nils], false, false⟩ := rfl
  have e2 : ti (Env.T vE) 9 = .ok ⟨.str, 1, 16, [.str []], false, false⟩ := rfl
  have e3 : ti (Env.T vE) 5 = .ok ⟨.int .u8, 1, 1, [.int .u8 0], false, false⟩ := rfl
  simp only [convertP, e1, e2, e3, ok_bind, isByte, bytesOf_bytes, pure_eq]
theorem many_loop {n : Nat} {s : B} (hs : s ≠ []) (hn : n * s.length ≤ 1000000) : ∀ (k i : Nat) (v : AV) (st : St), i + k = n → Own st 1 5 v (ofBytes (rep i s)) →
    ∃ v' st', loopO (g21_L1 (n : Int) s) ([v, .int .i64 (i : Int)], st) = some (0, [v'], st') ∧ Own st' 1 5 v' (ofBytes (rep n s))
  | 0, i, v, st, hi, h => by
    have q : ¬ (i : Int) < (n : Int) := by omega
    have : i = n := by omega
    subst this
    refine ⟨v, st, loopO_inr ?_, h⟩
    simp only [g21_L1, unc_cons, asI_int, un0_nil, ifB_decide, if_neg q]
  | k + 1, i, v, st, hi, h => by
    have q : (i : Int) < (n : Int) := by omega
    have h1 : 1 ≤ s.length := List.length_pos_iff.2 hs
    have hle : (i + 1) * s.length ≤ n * s.length := Nat.mul_le_mul_right _ (by omega)
    have hle0 : (i + 1) * 1 ≤ (i + 1) * s.length := Nat.mul_le_mul_left _ h1
    have w1 : IntKind.wrap .i64 ((i : Int) + 1) = ((i + 1 : Nat) : Int) := wrapA1 (by omega)
    obtain ⟨v2, s2, x2, o2, k2, j2, _, a2⟩ := own_fx (b := 1) (ofBytes s) h fun _ => room_of (by
      rw [ofBytes_length, ofBytes_length, rep_len]
      have : (i + 1) * s.length = i * s.length + s.length := by rw [Nat.add_mul, Nat.one_mul]
      omega) (by omega) (by omega)
    rw [← ofBytes_append, ← rep_succ] at o2
    obtain ⟨v', st', e', o'⟩ := many_loop hs hn k (i + 1) v2 s2 (by omega) o2
    refine ⟨v', st', (loopO_inl ?_).trans e', o'⟩
    simp only [g21_L1, unc_cons, asI_int, un0_nil, ifB_decide, if_pos q, fitTs_bytes, sizes_bytes, chk_true, a2, letV_eq, w1]
theorem many_ok {n : Nat} {s : B} (h1 : 1 ≤ n) (hs : s ≠ []) (hn : n * s.length ≤ 1000000) : (orc vE).bare 21 [.int .i64 (n : Int), .str s] = some (.str (rep n s)) := by
  refine bare_of rfl ((g21_eq _ _).trans ?_)
  have w1 : IntKind.wrap .i64 ((n : Int) * (s.length : Int)) = ((n * s.length : Nat) : Int) := by
    rw [← Int.natCast_mul]; exact wrapN (by omega)
  obtain ⟨v', st', e, o⟩ := many_loop hs hn n 0 (.sl 1 [] (.own 0)) (St.add (St.mk 0 0 Tr.leaf) (.tok 0 5)) (by omega) ⟨by simp [St.add_ro, St.add_h], Nat.zero_le _, .inr (.inr ⟨0, rfl, rfl, Nat.le_refl _⟩)⟩
  have e : loopO (g21_L1 (n : Int) s) ([.sl 1 [] (.own 0), .int .i64 0], St.add (St.mk 0 0 Tr.leaf) (.tok 0 5)) = _ := e
  have pm : ∀ {β : Type} (K : Kv β), planS (orc vE) (makeSliceP (Env.T vE) 91 (.int .i64 0) (.int .i64 ((n * s.length : Nat) : Int))) (St.mk 0 0 Tr.leaf) K = K (.sl 1 [] (.own 0)) (St.add (St.mk 0 0 Tr.leaf) (.tok 0 5)) ⟨[], .made 0 (.tok 0 5)⟩ := fun K => by
    rw [many_make hn]; rfl
  have hne : ofBytes (rep n s) ≠ [] := by
    intro h
    have := congrArg List.length h
    rw [ofBytes_length, rep_len] at this
    have h2 : 1 ≤ s.length := List.length_pos_iff.2 hs
    have : 1 * 1 ≤ n * s.length := Nat.mul_le_mul h1 h2
    simp at *; omega
  obtain ⟨p, rfl⟩ : ∃ p, v' = .sl 1 (ofBytes (rep n s)) p := by
    rcases o.2.2 with ⟨_, h⟩ | h | ⟨k, h, _⟩
    · exact absurd h hne
    · exact ⟨_, h⟩
    · exact ⟨_, h⟩
  have pc : ∀ {β : Type} (st : St) (K : Kv β), planS (orc vE) (convertP (Env.T vE) 91 9 (.sl 1 (ofBytes (rep n s)) p)) st K = K (.str (rep n s)) st q0 := fun st K => by
    rw [many_conv]; rfl
  simp only [g21, asI_int, asS_str, letV_eq, w1, pm]
  rw [e]
  simp only [bindO_ok, unc_cons, un0_nil, pc, asS_str, letV_eq]
theorem call_many {β : Type} {n : Nat} {s : B} (h1 : 1 ≤ n) (hs : s ≠ []) (hn : n * s.length ≤ 1000000) (st : St) (K : Kv β) : callS (orc vE) 21 [.int .i64 (n : Int), .str s] st K = K (.str (rep n s)) st q0 := callS_bare st K rfl rfl rfl (many_ok h1 hs hn)
theorem call_atR {β : Type} (a b c : Int) (st : St) (K : Kv β) : callS (orc vE) 23 [.int .i64 a, .int .i64 b, .int .i64 c] st K = K (.agg [.int .i64 a, .int .i64 b, .int .i64 a, .int .i64 c]) st q0 :=
  callS_bare st K rfl rfl rfl (bare_of rfl ((g23_eq _ _ _).trans (by simp only [g23, asI_int])))
theorem call_prt {β : Type} (a b c d : Int) (s : B) (st : St) (K : Kv β) : callS (orc vE) 22 [.agg [.int .i64 a, .int .i64 b, .int .i64 c, .int .i64 d], .str s] st K = K (chgV ⟨false, a, b, c, d, s⟩) st q0 :=
  callS_bare st K rfl rfl rfl (bare_of rfl ((g22_eq _ _).trans (by simp only [g22, unA_agg, unc_cons, asI_int, un0_nil, asS_str, chgV])))
/-- A store as it stands. -/
def Wo (st : St) (sp : Nat) (ds : List Dc) : Prop := ∃ ow, Sto st sp ow ds ∧ DsOk ds
section
variable {st : St} {sp : Nat} {ds : List Dc} {β : Type} {Q : β → Prop} {K : Kv β} {nm tx : B} {no : Int}
theorem go_open_no (w : Wo st sp ds) (e : Nat) (ei : Int) (hi : (e : Int) = ei) (he : openE ds nm no tx = e) (hne : e ≠ 0) (ht : tx.length ≤ 1000000) (g : ∀ s fx, Wo s sp ds → Goes (K (.int .i64 ei) s fx) Q) : Goes (callS (orc vE) 10 [.mp sp 0, .str nm, .int .i64 no, .str tx] st K) Q := by
  obtain ⟨ow, h, ok⟩ := w
  obtain ⟨s, e1, k, _⟩ := openS_ok h ok.len nm no tx ht
  rw [he] at k e1
  subst hi
  exact Goes.step (call_openS e1 K) (g _ _ ⟨ow, h.keeps (k hne), ok⟩)
theorem go_open (w : Wo st sp ds) (he : openE ds nm no tx = 0) (g : ∀ s fx t, WF t → t.text = tx → Wo s sp (ds ++ [⟨nm, [(no, t)]⟩]) → Goes (K (.int .i64 0) s fx) Q) : Goes (callS (orc vE) 10 [.mp sp 0, .str nm, .int .i64 no, .str tx] st K) Q := by
  obtain ⟨ow, h, ok⟩ := w
  obtain ⟨a1, a2, a3, a4⟩ := openE_zero he
  obtain ⟨s, e1, _, k⟩ := openS_ok h ok.len nm no tx (by omega)
  rw [he] at k e1
  obtain ⟨t, ow', wt, tt, h', _⟩ := k rfl
  exact Goes.step (call_openS e1 K) (g _ _ t wt tt ⟨ow', h', does_ok ok (Does.opened (s := ⟨0, nm, no, tx, []⟩) t wt (by rw [← size_text, tt]; exact a4) a1 a2 a3)⟩)
theorem go_change_no (w : Wo st sp ds) {x : AV} {cs : List Chg} (hx : IsSl 6 x (cs.map chgV)) (e : Nat) (ei : Int) (hi : (e : Int) = ei) (he : changeE ds nm no cs = .error e) (hcl : ∀ c ∈ cs, c.text.length ≤ 1000000) (hlen : cs.length ≤ 1000000) (g : ∀ s fx, Wo s sp ds → Goes (K (.int .i64 ei) s fx) Q) : Goes (callS (orc vE) 11 [.mp sp 0, .str nm, .int .i64 no, x] st K) Q := by
  obtain ⟨ow, h, ok⟩ := w
  have hch := changeS_ok h ok.ok (by have := ok.len; omega) nm no hx hcl hlen
  rw [he] at hch
  obtain ⟨_, s, e1, k⟩ := hch
  subst hi
  exact Goes.step (call_changeS e1 K) (g _ _ ⟨ow, h.keeps k, ok⟩)
theorem go_change (w : Wo st sp ds) {x : AV} {cs : List Chg} (hx : IsSl 6 x (cs.map chgV)) {i : Nat} {u : B} (he : changeE ds nm no cs = .ok (i, u)) (hcl : ∀ c ∈ cs, c.text.length ≤ 1000000) (hlen : cs.length ≤ 1000000) (g : ∀ s fx d t, ds[i]? = some d → WF t → t.text = u → Wo s sp (ds.set i ⟨d.nm, d.vs ++ [(no, t)]⟩) → Goes (K (.int .i64 0) s fx) Q) : Goes (callS (orc vE) 11 [.mp sp 0, .str nm, .int .i64 no, x] st K) Q := by
  obtain ⟨ow, h, ok⟩ := w
  have hch := changeS_ok h ok.ok (by have := ok.len; omega) nm no hx hcl hlen
  rw [he] at hch
  obtain ⟨t, d, s, hd, hnm, wt, st3, tt, e1, h', k⟩ := hch
  obtain ⟨a1, a2, d2, v2, a3, a4, a5⟩ := changeE_ok he
  rw [hd] at a3; cases a3
  exact Goes.step (call_changeS e1 K) (g _ _ d t hd wt tt ⟨ow, h', does_ok ok (Does.changed (s := ⟨1, nm, no, [], cs⟩) i d v2 t rfl wt st3 a1 hd a4 a5 a2)⟩)
theorem go_close_no (w : Wo st sp ds) (he : findN nm ds 0 = none) (g : ∀ s fx, Wo s sp ds → Goes (K (.int .i64 5) s fx) Q) : Goes (callS (orc vE) 18 [.mp sp 0, .str nm] st K) Q := by
  obtain ⟨ow, h, ok⟩ := w
  have hc := close_ok h (by have := ok.len; omega) nm
  rw [he] at hc
  obtain ⟨s, k, c⟩ := hc
  exact Goes.step (c K) (g _ _ ⟨ow, h.keeps k, ok⟩)
theorem go_close (w : Wo st sp ds) {i : Nat} (he : findN nm ds 0 = some i) (g : ∀ s fx, Wo s sp (ds.eraseIdx i) → Goes (K (.int .i64 0) s fx) Q) : Goes (callS (orc vE) 18 [.mp sp 0, .str nm] st K) Q := by
  obtain ⟨ow, h, ok⟩ := w
  have hc := close_ok h (by have := ok.len; omega) nm
  rw [he] at hc
  obtain ⟨s, ow', h', k, _, c⟩ := hc
  exact Goes.step (c K) (g _ _ ⟨ow', h', does_ok ok (Does.closed (s := ⟨2, nm, 0, [], []⟩) i rfl he)⟩)
theorem go_at (w : Wo st sp ds) (g : ∀ s fx, Wo s sp ds → Goes (K (match atT ds nm no with | none => .tup [.str [], .int .i64 5] | some s => .tup [.str s, .int .i64 0]) s fx) Q) : Goes (callS (orc vE) 17 [.mp sp 0, .str nm, .int .i64 no] st K) Q := by
  obtain ⟨ow, h, ok⟩ := w
  obtain ⟨s, k, c⟩ := call_at h ok.ok (by have := ok.len; omega) nm no
  exact Goes.step (c K) (g _ _ ⟨ow, h.keeps k, ok⟩)
theorem go_last (w : Wo st sp ds) (hl : lastT ds nm = (no, tx, 0)) (g : ∀ s fx, Wo s sp ds → Goes (K (.bool true) s fx) Q) : Goes (callS (orc vE) 13 [.mp sp 0, .str nm, .int .i64 no, .str tx] st K) Q := by
  obtain ⟨ow, h, ok⟩ := w
  obtain ⟨s, k, c⟩ := lastL_ok h ok.ok (by have := ok.len; omega) nm no tx
  rw [decide_eq_true hl] at c
  exact Goes.step (c K) (g _ _ ⟨ow, h.keeps k, ok⟩)
theorem go_names (w : Wo st sp ds) (g : ∀ v s fx, Own s 1 9 v (ds.map nmV) → Wo s sp ds → Goes (K v s fx) Q) : Goes (callS (orc vE) 15 [.mp sp 0] st K) Q := by
  obtain ⟨ow, h, ok⟩ := w
  obtain ⟨v, s, o, k, c⟩ := call_names h (by have := ok.len; omega)
  exact Goes.step (c K) (g _ _ _ o ⟨ow, h.keeps k.keeps, ok⟩)
theorem go_kept (w : Wo st sp ds) {d : Dc} (hd : docN' nm ds = some d) (g : ∀ v s fx, Own s 1 3 v (d.kept.map noV) → Wo s sp ds → Goes (K (.tup [v, .int .i64 0]) s fx) Q) : Goes (callS (orc vE) 16 [.mp sp 0, .str nm] st K) Q := by
  obtain ⟨ow, h, ok⟩ := w
  obtain ⟨v, s, o, k, c⟩ := call_kept h ok.ok (by have := ok.len; omega) nm
  rw [hd] at o c
  exact Goes.step (c K) (g _ _ _ o ⟨ow, h.keeps k.keeps, ok⟩)
end
/-! Texts of one letter. -/
abbrev X (n : Nat) : B := List.replicate n 120
theorem X_at {n i : Nat} (h : i < n) : (X n).getD i 0 = 120 := by
  rw [List.getD_eq_getElem?_getD, List.getElem?_replicate, if_pos h]; rfl
theorem linesF_X (n : Nat) : ∀ (m a i : Nat), n < m + i → i ≤ n → linesF m (X n) a i = [(a, n)]
  | 0, a, i, h1, h2 => by omega
  | m + 1, a, i, h1, h2 => by
    unfold linesF
    by_cases h : i < n
    · rw [List.length_replicate, if_pos h, X_at h, if_neg (by decide), if_neg (by decide)]
      exact linesF_X n m a (i + 1) (by omega) (by omega)
    · rw [List.length_replicate, if_neg h]
theorem linesT_X (n : Nat) : linesT (X n) = [(0, n)] := linesF_X n _ 0 0 (by rw [List.length_replicate]; omega) (Nat.zero_le _)
theorem decode_asc {b : UInt8} (h : b.toNat < 128) (l : B) : decodeL (b :: l) = (b.toNat, 1) := by
  rcases szL_decode (b :: l) with ⟨h1, _⟩ | ⟨_, _, h2⟩ | ⟨h1, _⟩
  · rw [szL_asc h] at h1; omega
  · exact h2
  · rw [szL_asc h] at h1; omega
theorem X_drop {n i : Nat} (h : i < n) : (X n).drop i = 120 :: X (n - i - 1) := by
  rw [List.drop_replicate, show n - i = n - i - 1 + 1 by omega]; rfl
theorem offF_X (n c : Nat) (hc : c ≤ n) : ∀ (m i : Nat), n < m + i → i ≤ c → offF m (X n) i i c = some c
  | 0, i, h1, h2 => by omega
  | m + 1, i, h1, h2 => by
    unfold offF
    rw [List.length_replicate]
    by_cases h : i < n
    · rw [if_pos h]
      by_cases hci : c ≤ i
      · rw [if_pos hci, if_neg (by omega), show i = c by omega]
      · rw [if_neg hci, X_drop h, decode_asc (by decide)]
        exact offF_X n c hc m (i + 1) (by omega) (by omega)
    · rw [if_neg h, if_pos (by omega), show n = c by omega]
theorem offT_X {n c : Nat} (h : c ≤ n) : offT (X n) 0 (c : Int) = some c := by
  unfold offT
  rw [linesT_X, if_neg (by simp)]
  show (offF (n - 0 + 1) ((X n).take n) 0 0 ((c : Int).toNat)).map (0 + ·) = some c
  rw [List.take_of_length_le (by rw [List.length_replicate]; exact Nat.le_refl _), Int.toNat_natCast, offF_X n c h _ 0 (by omega) (Nat.zero_le _)]
  simp
theorem offT_X9 (n : Nat) (c : Int) : offT (X n) 9 c = none := by
  unfold offT
  rw [linesT_X, if_pos (by right; left; show ((1 : Nat) : Int) ≤ 9; omega)]
theorem spanT_X {n a b : Nat} (h : b ≤ n) (ha : a ≤ n) : spanT (X n) 0 (a : Int) 0 (b : Int) = if b < a then none else some (a, b) := by
  unfold spanT
  rw [offT_X h, offT_X ha]
theorem valid_X (n : Nat) : validS (X n) = true := valid_asc _ fun b hb => by rw [List.eq_of_mem_replicate hb]; decide
theorem szL_euro (l : B) : szL ([226, 130, 172] ++ l) = 3 := by
  show szN (l.length + 1 + 1 + 1) 226 130 172 _ = 3
  unfold szN
  rw [if_neg (by decide), if_neg (by decide), if_pos (by decide), if_neg]
  rintro (h | h | h | h | h | ⟨h, _⟩ | ⟨h, _⟩) <;> omega
theorem valid_euro : ∀ (n : Nat), validS (rep n [226, 130, 172]) = true
  | 0 => rfl
  | n + 1 => by
    have e : rep (n + 1) [226, 130, 172] = [226, 130, 172] ++ rep n [226, 130, 172] := by
      unfold rep; rw [List.replicate_succ, List.flatten_cons]
    rw [e, validS_step (by simp), szL_euro, if_neg (by omega)]
    exact valid_euro n
end Go.Proofs.YticccmpaekphgaaDoor.Vm
set_option maxRecDepth 1000000
set_option maxHeartbeats 0
namespace Go.Proofs.YticccmpaekphgaaDoor.Vm
open Go Go.VM Go.Proofs
/-- rostrum/rostrumlaw25.StoreNames -/
noncomputable def g5_L1 (v4 : AV) : Car → Option (Car ⊕ Nat × Car) := fun c292 => unc (Prod.fst c292) fun v293 l294 => asB v293 fun b295 => unc l294 fun v296 l297 => asI .i64 v296 fun n298 => un0 l297 (ifB (decide (n298
 < 12)) (letV (IntKind.wrap .i64 (n298 * n298)) fun n299 => callS (orc vE) 21 [AV.int .i64 n298, AV.str [226, 130, 172]] (Prod.snd c292) fun v300 st301 _x => asS v300 fun l303 => callS (orc vE) 11 [v4, AV.str [97],
 AV.int .i64 n299, AV.sl 6 [AV.agg [AV.bool true, AV.int .i64 0, AV.int .i64 0, AV.int .i64 0, AV.int .i64 0, AV.str l303]] Perm.shut] st301 fun v305 st306 _x => asI .i64 v305 fun n308 => ifB (n308 != 0) (some (Sum.inr
 (1, [AV.bool false], st306))) (letV (IntKind.wrap .i64 (n298 + 1)) fun n309 => some (Sum.inl ([AV.bool b295, AV.int .i64 n309], st306)))) (some (Sum.inr (0, [AV.bool b295], Prod.snd c292))))
noncomputable def g5_L2 (v4 : AV) : Car → Option (Car ⊕ Nat × Car) := fun c377 => unc (Prod.fst c377) fun v378 l379 => asB v378 fun b380 => unc l379 fun v381 l382 => asI .i64 v381 fun n383 => un0 l382 (ifB (decide (n383
 < 32)) (callS (orc vE) 21 [AV.int .i64 n383, AV.str [110]] (Prod.snd c377) fun v384 st385 _x => asS v384 fun l387 => callS (orc vE) 10 [v4, AV.str l387, AV.int .i64 5, AV.str []] st385 fun v388 st389 _x => asI .i64 v388
 fun n391 => ifB (n391 != 0) (some (Sum.inr (1, [AV.bool false], st389))) (letV (IntKind.wrap .i64 (n383 + 1)) fun n392 => some (Sum.inl ([AV.bool b380, AV.int .i64 n392], st389)))) (some (Sum.inr (0, [AV.bool b380],
 Prod.snd c377))))
noncomputable def g5 : Option AV := callS (orc vE) 7 [] (St.mk 0 0 Tr.leaf) fun v0 st1 _x => asB v0 fun b3 => ifB (!b3) (some (AV.bool false)) (callS (orc vE) 9 [] st1 fun v4 st5 _x => bindO (callS (orc vE) 10 [v4,
 AV.str [97], AV.int .i64 (-1), AV.str []] st5 fun v7 st8 _x => asI .i64 v7 fun n10 => ifB (n10 != 1) (some ([AV.bool true], st8)) (callS (orc vE) 10 [v4, AV.str [97], AV.int .i64 2147483648, AV.str []] st8 fun v11 st12
 _x => asI .i64 v11 fun n14 => ifB (n14 != 1) (some ([AV.bool true], st12)) (callS (orc vE) 21 [AV.int .i64 65537, AV.str [120]] st12 fun v15 st16 _x => asS v15 fun l18 => callS (orc vE) 10 [v4, AV.str [97], AV.int .i64
 0, AV.str l18] st16 fun v19 st20 _x => asI .i64 v19 fun n22 => ifB (n22 != 40) (some ([AV.bool true], st20)) (callS (orc vE) 10 [v4, AV.str [97], AV.int .i64 0, AV.str [255]] st20 fun v23 st24 _x => asI .i64 v23 fun n26
 => ifB (n26 != 4) (some ([AV.bool true], st24)) (callS (orc vE) 21 [AV.int .i64 65536, AV.str [120]] st24 fun v27 st28 _x => asS v27 fun l30 => callS (orc vE) 10 [v4, AV.str [97], AV.int .i64 0, AV.str l30] st28 fun v31
 st32 _x => asI .i64 v31 fun n34 => ifB (n34 != 0) (some ([AV.bool true], st32)) (callS (orc vE) 10 [v4, AV.str [97], AV.int .i64 (-1), AV.str []] st32 fun v35 st36 _x => asI .i64 v35 fun n38 => some ([AV.bool (n38 !=
 6)], st36))))))) fun c39 => unc (Prod.fst c39) fun v40 l41 => asB v40 fun b42 => un0 l41 (ifB b42 (some (AV.bool false)) (bindO (callS (orc vE) 11 [v4, AV.str [98], AV.int .i64 (-1), AV.nils] (Prod.snd c39) fun v43 st44
 _x => asI .i64 v43 fun n46 => ifB (n46 != 5) (some ([AV.bool true], st44)) (callS (orc vE) 11 [v4, AV.str [97], AV.int .i64 (-1), AV.nils] st44 fun v47 st48 _x => asI .i64 v47 fun n50 => ifB (n50 != 1) (some ([AV.bool
 true], st48)) (callS (orc vE) 11 [v4, AV.str [97], AV.int .i64 0, AV.nils] st48 fun v51 st52 _x => asI .i64 v51 fun n54 => ifB (n54 != 67) (some ([AV.bool true], st52)) (callS (orc vE) 23 [AV.int .i64 0, AV.int .i64 0,
 AV.int .i64 0] st52 fun v55 st56 _x => unA v55 fun l59 => unc l59 fun v60 l61 => asI .i64 v60 fun n62 => unc l61 fun v63 l64 => asI .i64 v63 fun n65 => unc l64 fun v66 l67 => asI .i64 v66 fun n68 => unc l67 fun v69 l70
 => asI .i64 v69 fun n71 => un0 l70 (callS (orc vE) 22 [AV.agg [AV.int .i64 n62, AV.int .i64 n65, AV.int .i64 n68, AV.int .i64 n71], AV.str [121]] st56 fun v72 st73 _x => unA v72 fun l76 => unc l76 fun v77 l78 => asB v77
 fun b79 => unc l78 fun v80 l81 => asI .i64 v80 fun n82 => unc l81 fun v83 l84 => asI .i64 v83 fun n85 => unc l84 fun v86 l87 => asI .i64 v86 fun n88 => unc l87 fun v89 l90 => asI .i64 v89 fun n91 => unc l90 fun v92 l93
 => asS v92 fun l94 => un0 l93 (callS (orc vE) 11 [v4, AV.str [97], AV.int .i64 1, AV.sl 6 [AV.agg [AV.bool b79, AV.int .i64 n82, AV.int .i64 n85, AV.int .i64 n88, AV.int .i64 n91, AV.str l94]] Perm.shut] st73 fun v95
 st96 _x => asI .i64 v95 fun n98 => ifB (n98 != 40) (some ([AV.bool true], st96)) (callS (orc vE) 23 [AV.int .i64 0, AV.int .i64 0, AV.int .i64 1] st96 fun v99 st100 _x => unA v99 fun l103 => unc l103 fun v104 l105 =>
 asI .i64 v104 fun n106 => unc l105 fun v107 l108 => asI .i64 v107 fun n109 => unc l108 fun v110 l111 => asI .i64 v110 fun n112 => unc l111 fun v113 l114 => asI .i64 v113 fun n115 => un0 l114 (callS (orc vE) 22 [AV.agg
 [AV.int .i64 n106, AV.int .i64 n109, AV.int .i64 n112, AV.int .i64 n115], AV.str [255]] st100 fun v116 st117 _x => unA v116 fun l120 => unc l120 fun v121 l122 => asB v121 fun b123 => unc l122 fun v124 l125 => asI .i64
 v124 fun n126 => unc l125 fun v127 l128 => asI .i64 v127 fun n129 => unc l128 fun v130 l131 => asI .i64 v130 fun n132 => unc l131 fun v133 l134 => asI .i64 v133 fun n135 => unc l134 fun v136 l137 => asS v136 fun l138 =>
 un0 l137 (callS (orc vE) 11 [v4, AV.str [97], AV.int .i64 1, AV.sl 6 [AV.agg [AV.bool b123, AV.int .i64 n126, AV.int .i64 n129, AV.int .i64 n132, AV.int .i64 n135, AV.str l138]] Perm.shut] st117 fun v139 st140 _x => asI
 .i64 v139 fun n142 => ifB (n142 != 4) (some ([AV.bool true], st140)) (callS (orc vE) 21 [AV.int .i64 65537, AV.str [120]] st140 fun v143 st144 _x => asS v143 fun l146 => callS (orc vE) 11 [v4, AV.str [97], AV.int .i64
 1, AV.sl 6 [AV.agg [AV.bool true, AV.int .i64 0, AV.int .i64 0, AV.int .i64 0, AV.int .i64 0, AV.str l146]] Perm.shut] st144 fun v148 st149 _x => asI .i64 v148 fun n151 => ifB (n151 != 40) (some ([AV.bool true], st149))
 (callS (orc vE) 23 [AV.int .i64 0, AV.int .i64 2, AV.int .i64 1] st149 fun v152 st153 _x => unA v152 fun l156 => unc l156 fun v157 l158 => asI .i64 v157 fun n159 => unc l158 fun v160 l161 => asI .i64 v160 fun n162 =>
 unc l161 fun v163 l164 => asI .i64 v163 fun n165 => unc l164 fun v166 l167 => asI .i64 v166 fun n168 => un0 l167 (callS (orc vE) 22 [AV.agg [AV.int .i64 n159, AV.int .i64 n162, AV.int .i64 n165, AV.int .i64 n168],
 AV.str []] st153 fun v169 st170 _x => unA v169 fun l173 => unc l173 fun v174 l175 => asB v174 fun b176 => unc l175 fun v177 l178 => asI .i64 v177 fun n179 => unc l178 fun v180 l181 => asI .i64 v180 fun n182 => unc l181
 fun v183 l184 => asI .i64 v183 fun n185 => unc l184 fun v186 l187 => asI .i64 v186 fun n188 => unc l187 fun v189 l190 => asS v189 fun l191 => un0 l190 (callS (orc vE) 11 [v4, AV.str [97], AV.int .i64 1, AV.sl 6 [AV.agg
 [AV.bool b176, AV.int .i64 n179, AV.int .i64 n182, AV.int .i64 n185, AV.int .i64 n188, AV.str l191]] Perm.shut] st170 fun v192 st193 _x => asI .i64 v192 fun n195 => ifB (n195 != 60) (some ([AV.bool true], st193)) (callS
 (orc vE) 23 [AV.int .i64 0, AV.int .i64 0, AV.int .i64 9] st193 fun v196 st197 _x => unA v196 fun l200 => unc l200 fun v201 l202 => asI .i64 v201 fun n203 => unc l202 fun v204 l205 => asI .i64 v204 fun n206 => unc l205
 fun v207 l208 => asI .i64 v207 fun n209 => unc l208 fun v210 l211 => asI .i64 v210 fun n212 => un0 l211 (callS (orc vE) 22 [AV.agg [AV.int .i64 n203, AV.int .i64 n206, AV.int .i64 n209, AV.int .i64 n212], AV.str []]
 st197 fun v213 st214 _x => unA v213 fun l217 => unc l217 fun v218 l219 => asB v218 fun b220 => unc l219 fun v221 l222 => asI .i64 v221 fun n223 => unc l222 fun v224 l225 => asI .i64 v224 fun n226 => unc l225 fun v227
 l228 => asI .i64 v227 fun n229 => unc l228 fun v230 l231 => asI .i64 v230 fun n232 => unc l231 fun v233 l234 => asS v233 fun l235 => un0 l234 (callS (orc vE) 23 [AV.int .i64 9, AV.int .i64 0, AV.int .i64 0] st214 fun
 v236 st237 _x => unA v236 fun l240 => unc l240 fun v241 l242 => asI .i64 v241 fun n243 => unc l242 fun v244 l245 => asI .i64 v244 fun n246 => unc l245 fun v247 l248 => asI .i64 v247 fun n249 => unc l248 fun v250 l251 =>
 asI .i64 v250 fun n252 => un0 l251 (callS (orc vE) 22 [AV.agg [AV.int .i64 n243, AV.int .i64 n246, AV.int .i64 n249, AV.int .i64 n252], AV.str []] st237 fun v253 st254 _x => unA v253 fun l257 => unc l257 fun v258 l259
 => asB v258 fun b260 => unc l259 fun v261 l262 => asI .i64 v261 fun n263 => unc l262 fun v264 l265 => asI .i64 v264 fun n266 => unc l265 fun v267 l268 => asI .i64 v267 fun n269 => unc l268 fun v270 l271 => asI .i64 v270
 fun n272 => unc l271 fun v273 l274 => asS v273 fun l275 => un0 l274 (callS (orc vE) 11 [v4, AV.str [97], AV.int .i64 1, AV.sl 6 [AV.agg [AV.bool b220, AV.int .i64 n223, AV.int .i64 n226, AV.int .i64 n229, AV.int .i64
 n232, AV.str l235], AV.agg [AV.bool b260, AV.int .i64 n263, AV.int .i64 n266, AV.int .i64 n269, AV.int .i64 n272, AV.str l275]] Perm.shut] st254 fun v276 st277 _x => asI .i64 v276 fun n279 => ifB (n279 != 60) (some
 ([AV.bool true], st277)) (callS (orc vE) 21 [AV.int .i64 65536, AV.str [120]] st277 fun v280 st281 _x => asS v280 fun l283 => callS (orc vE) 13 [v4, AV.str [97], AV.int .i64 0, AV.str l283] st281 fun v284 st285 _x =>
 asB v284 fun b287 => some ([AV.bool !b287], st285)))))))))))))))))))) fun c288 => unc (Prod.fst c288) fun v289 l290 => asB v289 fun b291 => un0 l290 (ifB b291 (some (AV.bool false)) (bindO (loopO (g5_L1 v4) ([AV.bool
 false, AV.int .i64 1], Prod.snd c288)) fun c310 => unc (Prod.fst (Prod.snd c310)) fun v311 l312 => asB v311 fun b313 => un0 l312 (sel2 (Prod.fst c310) (callS (orc vE) 16 [v4, AV.str [97]] (Prod.snd (Prod.snd c310)) fun
 v314 st315 _x => unT v314 fun l317 => nthS l317 0 fun v318 => unT v314 fun l319 => nthS l319 1 fun v320 => asI .i64 v320 fun n321 => callS (orc vE) 17 [v4, AV.str [97], AV.int .i64 9] st315 fun v322 st323 _x => unT v322
 fun l325 => nthS l325 0 fun v326 => asS v326 fun _x => unT v322 fun l328 => nthS l328 1 fun v329 => asI .i64 v329 fun n330 => callS (orc vE) 17 [v4, AV.str [97], AV.int .i64 16] st323 fun v331 st332 _x => unT v331 fun
 l334 => nthS l334 0 fun v335 => asS v335 fun l336 => unT v331 fun l337 => nthS l337 1 fun v338 => asI .i64 v338 fun n339 => callS (orc vE) 17 [v4, AV.str [97], AV.int .i64 17] st332 fun v340 st341 _x => unT v340 fun
 l343 => nthS l343 0 fun v344 => asS v344 fun _x => unT v340 fun l346 => nthS l346 1 fun v347 => asI .i64 v347 fun n348 => bindO (ifB (n321 != 0) (some ([AV.bool true], st341)) (callS (orc vE) 20 [v318, AV.sl 1 [AV.int
 .i64 16, AV.int .i64 25, AV.int .i64 36, AV.int .i64 49, AV.int .i64 64, AV.int .i64 81, AV.int .i64 100, AV.int .i64 121] Perm.shut] st341 fun v349 st350 _x => asB v349 fun b352 => ifB (!b352) (some ([AV.bool true],
 st350)) (ifB (n330 != 5) (some ([AV.bool true], st350)) (ifB (n339 != 0) (some ([AV.bool true], st350)) (callS (orc vE) 21 [AV.int .i64 4, AV.str [226, 130, 172]] st350 fun v353 st354 _x => asS v353 fun l356 => ifB
 (!l336 == l356) (some ([AV.bool true], st354)) (ifB (n348 != 5) (some ([AV.bool true], st354)) (callS (orc vE) 11 [v4, AV.str [97], AV.int .i64 2147483648, AV.nils] st354 fun v357 st358 _x => asI .i64 v357 fun n360 =>
 ifB (n360 != 1) (some ([AV.bool true], st358)) (callS (orc vE) 11 [v4, AV.str [97], AV.int .i64 2147483647, AV.nils] st358 fun v361 st362 _x => asI .i64 v361 fun n364 => ifB (n364 != 0) (some ([AV.bool true], st362))
 (callS (orc vE) 21 [AV.int .i64 11, AV.str [226, 130, 172]] st362 fun v365 st366 _x => asS v365 fun l368 => callS (orc vE) 13 [v4, AV.str [97], AV.int .i64 2147483647, AV.str l368] st366 fun v369 st370 _x => asB v369
 fun b372 => some ([AV.bool !b372], st370)))))))))) fun c373 => unc (Prod.fst c373) fun v374 l375 => asB v374 fun b376 => un0 l375 (ifB b376 (some (AV.bool false)) (bindO (loopO (g5_L2 v4) ([AV.bool b313, AV.int .i64 1],
 Prod.snd c373)) fun c393 => unc (Prod.fst (Prod.snd c393)) fun v394 l395 => asB v394 fun b396 => un0 l395 (sel2 (Prod.fst c393) (bindO (callS (orc vE) 10 [v4, AV.str [122], AV.int .i64 0, AV.str []] (Prod.snd (Prod.snd
 c393)) fun v397 st398 _x => asI .i64 v397 fun n400 => ifB (n400 != 3) (some ([AV.bool true], st398)) (callS (orc vE) 10 [v4, AV.str [97], AV.int .i64 0, AV.str []] st398 fun v401 st402 _x => asI .i64 v401 fun n404 =>
 ifB (n404 != 6) (some ([AV.bool true], st402)) (callS (orc vE) 18 [v4, AV.str [110]] st402 fun v405 st406 _x => asI .i64 v405 fun n408 => ifB (n408 != 0) (some ([AV.bool true], st406)) (callS (orc vE) 18 [v4, AV.str
 [110]] st406 fun v409 st410 _x => asI .i64 v409 fun n412 => ifB (n412 != 5) (some ([AV.bool true], st410)) (callS (orc vE) 10 [v4, AV.str [122], AV.int .i64 0, AV.str []] st410 fun v413 st414 _x => asI .i64 v413 fun
 n416 => ifB (n416 != 0) (some ([AV.bool true], st414)) (callS (orc vE) 15 [v4] st414 fun v417 st418 _x => lenS v417 fun k420 => ifB ((↑k420 : Int) != 32) (some ([AV.bool true], st418)) (callS (orc vE) 15 [v4] st418 fun
 v421 st422 _x => idxA 1 v421 31 st422 fun v424 _x => loadS 1 false v424 st422 fun v426 _x => asS v426 fun l428 => ifB (!l428 == [122]) (some ([AV.bool true], st422)) (callS (orc vE) 15 [v4] st422 fun v429 st430 _x =>
 idxA 1 v429 0 st430 fun v432 _x => loadS 1 false v432 st430 fun v434 _x => asS v434 fun l436 => some ([AV.bool !l436 == [97]], st430))))))))) fun c437 => unc (Prod.fst c437) fun v438 l439 => asB v438 fun b440 => un0
 l439 (ifB b440 (some (AV.bool false)) (callS (orc vE) 14 [AV.nilp, AV.str [97]] (Prod.snd c437) fun v441 st442 _x => unT v441 fun l444 => nthS l444 0 fun v445 => asI .i64 v445 fun _x => unT v441 fun l447 => nthS l447 1
 fun v448 => asS v448 fun _x => unT v441 fun l450 => nthS l450 2 fun v451 => asI .i64 v451 fun n452 => callS (orc vE) 17 [AV.nilp, AV.str [97], AV.int .i64 0] st442 fun v453 st454 _x => unT v453 fun l456 => nthS l456 0
 fun v457 => asS v457 fun _x => unT v453 fun l459 => nthS l459 1 fun v460 => asI .i64 v460 fun n461 => callS (orc vE) 16 [AV.nilp, AV.str [97]] st454 fun v462 st463 _x => unT v462 fun l465 => nthS l465 0 fun _x => unT
 v462 fun l467 => nthS l467 1 fun v468 => asI .i64 v468 fun n469 => bindO (callS (orc vE) 10 [AV.nilp, AV.str [97], AV.int .i64 0, AV.str []] st463 fun v470 st471 _x => asI .i64 v470 fun n473 => ifB (n473 == 2) (callS
 (orc vE) 11 [AV.nilp, AV.str [97], AV.int .i64 0, AV.nils] st471 fun v474 st475 _x => asI .i64 v474 fun n477 => ifB (n477 == 2) (callS (orc vE) 18 [AV.nilp, AV.str [97]] st475 fun v478 st479 _x => asI .i64 v478 fun n481
 => ifB (n481 == 2) (ifB (n452 == 2) (ifB (n461 == 2) (ifB (n469 == 2) (callS (orc vE) 15 [AV.nilp] st479 fun v482 st483 _x => lenS v482 fun k485 => ifB ((↑k485 : Int) == 0) (callS (orc vE) 24 [AV.nilp] st483 fun v486
 st487 _x => nilS (U.ptr 69) v486 AV.nilp fun b489 => some ([AV.bool b489], st487)) (some ([AV.bool false], st483))) (some ([AV.bool false], st479))) (some ([AV.bool false], st479))) (some ([AV.bool false], st479)))
 (some ([AV.bool false], st479))) (some ([AV.bool false], st475))) (some ([AV.bool false], st471))) fun c490 => unc (Prod.fst c490) fun v491 l492 => asB v491 fun b493 => un0 l492 (some (AV.bool b493))))) fun _x => some
 (AV.bool b396))))) fun _x => some (AV.bool b313)))))))
theorem g5_eq : bareS vE 5 [] = g5 := by kernel_rfl
end Go.Proofs.YticccmpaekphgaaDoor.Vm
/- The law: the examples, the limits, the errors. -/
set_option maxRecDepth 100000
set_option linter.unusedSimpArgs false
set_option maxHeartbeats 8000000
namespace Go.Proofs.YticccmpaekphgaaDoor.Vm
open Go Go.VM Go.Proofs Go.Store Go.Lib T

theorem findN_not {nm : B} : ∀ {l : List Dc} (_ : ∀ d ∈ l, d.nm ≠ nm) (i : Nat), findN nm l i = none
  | [], _, _ => rfl
  | d :: l, h, i => by
    unfold findN
    rw [if_neg (h d (by simp))]
    exact findN_not (fun x hx => h x (List.mem_cons_of_mem _ hx)) (i + 1)
theorem openE_large {ds : List Dc} {nm tx : B} {no : Int} (h : findN nm ds 0 = none) (hl : ds.length < 32) (hn : badN no = false) (ht : 65536 < tx.length) : openE ds nm no tx = 40 := by
  unfold openE
  rw [h]
  simp only [if_neg (show ¬ 32 ≤ ds.length by omega), hn, Bool.false_eq_true, if_false, if_pos ht]
theorem openE_ok {ds : List Dc} {nm tx : B} {no : Int} (h : findN nm ds 0 = none) (hl : ds.length < 32) (hn : badN no = false) (ht : tx.length ≤ 65536) (hv : validS tx = true) : openE ds nm no tx = 0 := by
  unfold openE
  rw [h]
  simp only [if_neg (show ¬ 32 ≤ ds.length by omega), hn, Bool.false_eq_true, if_false, if_neg (show ¬ 65536 < tx.length by omega), hv, if_true]
theorem openE_full {ds : List Dc} {nm tx : B} {no : Int} (h : findN nm ds 0 = none) (hl : 32 ≤ ds.length) : openE ds nm no tx = 3 := by
  unfold openE
  rw [h]
  simp only [if_pos hl]
theorem ch1 {vs : List (Int × T)} {v : Int × T} (h : vs.getLast? = some v) {no : Int} (hb : badN no = false) (hgt : v.1 < no) (cs : List Chg) (l : List Dc) : changeE (⟨[97], vs⟩ :: l) [97] no cs = match doneL v.2.text cs with | .error e => .error e | .ok u => .ok (0, u) := by
  have hf : findN [97] (⟨[97], vs⟩ :: l) 0 = some 0 := rfl
  unfold changeE
  rw [hf, hb]
  simp only [List.getElem?_cons_zero, Option.bind_some, h, Bool.false_eq_true, if_false, if_neg (show ¬ no ≤ v.1 by omega)]
  rfl
theorem done_at {n a b : Nat} {s : B} (h : a ≤ b) (hb : b ≤ n) : doneT (X n) ⟨false, 0, a, 0, b, s⟩ = if 65536 < n - (b - a) + s.length then .error 40 else if validS s = true then .ok ((X n).take a ++ s ++ (X n).drop b) else .error 4 := by
  unfold doneT placeT
  simp only [Bool.false_eq_true, if_false, valid_X, if_true, spanT_X hb (show a ≤ n by omega), if_neg (show ¬ b < a by omega), List.length_replicate]
theorem done_turn {n a b : Nat} {s : B} (h : b < a) (ha : a ≤ n) : doneT (X n) ⟨false, 0, a, 0, b, s⟩ = .error 60 := by
  unfold doneT placeT
  simp only [Bool.false_eq_true, if_false, valid_X, if_true, spanT_X (show b ≤ n by omega) ha, if_pos h]
theorem done_out {n : Nat} {a b : Int} {s : B} : doneT (X n) ⟨false, 9, a, 9, b, s⟩ = .error 60 := by
  unfold doneT placeT spanT
  simp only [Bool.false_eq_true, if_false, valid_X, if_true, offT_X9]
theorem done_whole {t s : B} : doneT t ⟨true, 0, 0, 0, 0, s⟩ = if 65536 < s.length then .error 40 else if validS s = true then .ok s else .error 4 := by
  unfold doneT placeT
  simp only [if_true, Nat.sub_zero, Nat.sub_self, Nat.zero_add, List.take_zero, List.nil_append, List.drop_length, List.append_nil]
structure Big (b : B) : Prop where
  len : b.length = 65536
  valid : validS b = true
  e1 : doneL b [⟨false, 0, 0, 0, 0, [121]⟩] = .error 40
  e2 : doneL b [⟨false, 0, 0, 0, 1, [255]⟩] = .error 4
  e3 : doneL b [⟨false, 0, 2, 0, 1, []⟩] = .error 60
  e4 : doneL b [⟨false, 0, 0, 0, 9, []⟩, ⟨false, 9, 0, 9, 0, []⟩] = .error 60
theorem big_of {n : Nat} (hn : n = 65536) : Big (X n) where
  len := by rw [List.length_replicate]; exact hn
  valid := valid_X n
  e1 := by
    unfold doneL
    rw [show (⟨false, 0, 0, 0, 0, [121]⟩ : Chg) = ⟨false, 0, ((0 : Nat) : Int), 0, ((0 : Nat) : Int), [121]⟩ from rfl, done_at (Nat.le_refl _) (Nat.zero_le _), if_pos (by show 65536 < n - (0 - 0) + 1; omega)]
  e2 := by
    unfold doneL
    rw [show (⟨false, 0, 0, 0, 1, [255]⟩ : Chg) = ⟨false, 0, ((0 : Nat) : Int), 0, ((1 : Nat) : Int), [255]⟩ from rfl, done_at (by omega) (by omega), if_neg (by show ¬ 65536 < n - (1 - 0) + 1; omega), if_neg (by decide)]
  e3 := by
    unfold doneL
    rw [show (⟨false, 0, 2, 0, 1, []⟩ : Chg) = ⟨false, 0, ((2 : Nat) : Int), 0, ((1 : Nat) : Int), []⟩ from rfl, done_turn (by omega) (by omega)]
  e4 := by
    unfold doneL
    rw [show (⟨false, 0, 0, 0, 9, []⟩ : Chg) = ⟨false, 0, ((0 : Nat) : Int), 0, ((9 : Nat) : Int), []⟩ from rfl, done_at (by omega) (by omega), if_neg (by show ¬ 65536 < n - (9 - 0) + 0; omega), if_pos (by decide), List.take_zero, List.nil_append, List.nil_append, List.drop_replicate]
    unfold doneL
    simp only [done_out]
abbrev eu : B := [226, 130, 172]
def fV (v : Int × T) : Int × B := (v.1, v.2.text)
def wantV (b : B) (k : Nat) : List (Int × B) := (0, b) :: (List.range k).map fun i => ((((i + 1) * (i + 1) : Nat) : Int), rep (i + 1) eu)
def Vs (b : B) (k : Nat) (vs : List (Int × T)) : Prop := vs.map fV = wantV b k ∧ ∃ v, vs.getLast? = some v ∧ v.1 = ((k * k : Nat) : Int)
theorem names_L1 (b : B) (sp : Nat) : ∀ (j k : Nat) (st : St) (vs : List (Int × T)), k + j = 11 → Vs b k vs → Wo st sp [⟨[97], vs⟩] →
    Goes (loopO (g5_L1 (.mp sp 0)) ([.bool false, .int .i64 ((k + 1 : Nat) : Int)], st)) (fun r => r.1 = 0 ∧ r.2.1 = [.bool false] ∧ ∃ vs, Vs b 11 vs ∧ Wo r.2.2 sp [⟨[97], vs⟩])
  | 0, k, st, vs, hj, hv, w => by
    have q : ¬ ((k + 1 : Nat) : Int) < 12 := by omega
    have hk : k = 11 := by omega
    subst hk
    refine ⟨(0, [.bool false], st), loopO_inr ?_, rfl, rfl, vs, hv, w⟩
    simp only [g5_L1, unc_cons, asI_int, asB_bool, un0_nil, ifB_decide, if_neg q]
  | j + 1, k, st, vs, hj, hv, w => by
    have q : ((k + 1 : Nat) : Int) < 12 := by omega
    obtain ⟨hv1, v, hv2, hv3⟩ := hv
    have hle : (k + 1) * (k + 1) ≤ 11 * 11 := Nat.mul_le_mul (by omega) (by omega)
    have hkk : (k + 1) * (k + 1) = k * k + 2 * k + 1 := by simp only [Nat.add_mul, Nat.mul_add, Nat.one_mul, Nat.mul_one]; omega
    have hw : IntKind.wrap .i64 (((k + 1 : Nat) : Int) * ((k + 1 : Nat) : Int)) = (((k + 1) * (k + 1) : Nat) : Int) := by rw [← Int.natCast_mul]; exact wrapN (by omega)
    have hw1 : IntKind.wrap .i64 (((k + 1 : Nat) : Int) + 1) = ((k + 1 + 1 : Nat) : Int) := wrapA1 (by omega)
    have m := fun {β : Type} (st : St) (K : Kv β) => call_many (n := k + 1) (s := eu) (by omega) (by decide) (by show (k + 1) * 3 ≤ 1000000; omega) st K
    have hb : badN (((k + 1) * (k + 1) : Nat) : Int) = false := badN_ok (by omega) (by omega)
    have hrl : (rep (k + 1) eu).length = (k + 1) * 3 := rep_len _ _
    have hdl : doneL v.2.text [⟨true, 0, 0, 0, 0, rep (k + 1) eu⟩] = .ok (rep (k + 1) eu) := by
      unfold doneL
      rw [done_whole, if_neg (by omega), if_pos (valid_euro _)]
      rfl
    have he := ch1 hv2 hb (show v.1 < (((k + 1) * (k + 1) : Nat) : Int) by rw [hv3]; omega) [⟨true, 0, 0, 0, 0, rep (k + 1) eu⟩] []
    rw [hdl] at he
    refine Goes.inl ?_
    simp only [g5_L1, unc_cons, asI_int, asB_bool, un0_nil, ifB_decide, if_pos q, hw, letV_eq, m, asS_str]
    refine go_change (cs := [⟨true, 0, 0, 0, 0, rep (k + 1) eu⟩]) w (IsSl.shut (by simp)) he (fun c hc => by rw [List.mem_singleton.1 hc]; show (rep (k + 1) eu).length ≤ _; omega) (by simp) fun s fx d t hd wt tt w => ?_
    simp only [List.getElem?_cons_zero, Option.some.injEq] at hd
    subst hd
    simp only [asI_int, bne_self_eq_false, ifB_false, letV_eq, hw1]
    refine Goes.some ⟨_, rfl, names_L1 b sp j (k + 1) s (vs ++ [((((k + 1) * (k + 1) : Nat) : Int), t)]) (by omega) ⟨?_, _, List.getLast?_concat, rfl⟩ w⟩
    rw [List.map_append, hv1]
    unfold wantV
    rw [List.range_succ, List.map_append, ← List.cons_append]
    show _ ++ [((((k + 1) * (k + 1) : Nat) : Int), t.text)] = _
    rw [tt]; rfl
def wantN (k : Nat) : List B := (List.range k).map fun i => rep (i + 1) [110]
theorem rep_ne {i j : Nat} (h : i ≠ j) : rep i [110] ≠ rep j [110] := fun e => by
  have := congrArg List.length e
  rw [rep_len, rep_len] at this
  simp only [List.length_singleton, Nat.mul_one] at this
  exact h this
theorem a_ne (j : Nat) : ([97] : B) ≠ rep (j + 1) [110] := fun e => by
  rw [rep_one] at e
  injection e with e _
  exact absurd e (by decide)
theorem names_L2 (sp : Nat) (vs : List (Int × T)) : ∀ (j k : Nat) (st : St) (l : List Dc), k + j = 31 → l.map Dc.nm = wantN k → Wo st sp (⟨[97], vs⟩ :: l) →
    Goes (loopO (g5_L2 (.mp sp 0)) ([.bool false, .int .i64 ((k + 1 : Nat) : Int)], st)) (fun r => r.1 = 0 ∧ r.2.1 = [.bool false] ∧ ∃ l, l.map Dc.nm = wantN 31 ∧ Wo r.2.2 sp (⟨[97], vs⟩ :: l))
  | 0, k, st, l, hj, hl, w => by
    have q : ¬ ((k + 1 : Nat) : Int) < 32 := by omega
    have hk : k = 31 := by omega
    subst hk
    refine ⟨(0, [.bool false], st), loopO_inr ?_, rfl, rfl, l, hl, w⟩
    simp only [g5_L2, unc_cons, asI_int, asB_bool, un0_nil, ifB_decide, if_neg q]
  | j + 1, k, st, l, hj, hl, w => by
    have q : ((k + 1 : Nat) : Int) < 32 := by omega
    have hw1 : IntKind.wrap .i64 (((k + 1 : Nat) : Int) + 1) = ((k + 1 + 1 : Nat) : Int) := wrapA1 (by omega)
    have m := fun {β : Type} (st : St) (K : Kv β) => call_many (n := k + 1) (s := [110]) (by omega) (by decide) (by show (k + 1) * 1 ≤ 1000000; omega) st K
    have hlen : l.length = k := by
      have := congrArg List.length hl
      simpa [wantN] using this
    have hf : findN (rep (k + 1) [110]) (⟨[97], vs⟩ :: l) 0 = none := findN_not (fun d hd => by
      rcases List.mem_cons.1 hd with rfl | hd
      · exact a_ne k
      · have : d.nm ∈ wantN k := by rw [← hl]; exact List.mem_map_of_mem hd
        obtain ⟨i, hi, hi2⟩ := List.mem_map.1 this
        rw [List.mem_range] at hi
        rw [← hi2]
        exact rep_ne (by omega)) 0
    refine Goes.inl ?_
    simp only [g5_L2, unc_cons, asI_int, asB_bool, un0_nil, ifB_decide, if_pos q, m, asS_str]
    refine go_open w (openE_ok hf (by rw [List.length_cons]; omega) (badN_ok (by omega) (by omega)) (by simp) rfl) fun s fx t wt tt w => ?_
    simp only [asI_int, bne_self_eq_false, ifB_false, letV_eq, hw1]
    refine Goes.some ⟨_, rfl, names_L2 sp vs j (k + 1) s (l ++ [(⟨rep (k + 1) [110], [(5, t)]⟩ : Dc)]) (by omega) ?_ w⟩
    rw [List.map_append, hl]
    unfold wantN
    rw [List.range_succ, List.map_append]
    rfl
def verT (no : Int) : List (Int × B) → Option B
  | [] => none
  | v :: l => if v.1 = no then some v.2 else verT no l
theorem verF_T (no : Int) : ∀ (l : List (Int × T)), (verF no l).map T.text = verT no (l.map fV)
  | [] => rfl
  | v :: l => by
    show (if v.1 = no then some v.2 else verF no l).map T.text = if v.1 = no then some v.2.text else verT no (l.map fV)
    split
    · rfl
    · exact verF_T no l
theorem law_names : (orc vE).bare 5 [] = some (.bool true) := by
  refine Goes.eq (Goes.bare rfl (Goes.step g5_eq ?_))
  generalize hs0 : (St.mk 0 0 Tr.leaf) = s0
  have hr0 : s0.ro = 0 := by rw [← hs0]
  obtain ⟨s1, a1, k1, n1, c1⟩ := call_new s0 hr0
  have w1 : Wo s1 s0.h [] := ⟨_, a1, ⟨(fun _ h => by cases h), by simp, List.Pairwise.nil⟩⟩
  have m1 : ∀ {β : Type} (st : St) (K : Kv β), callS (orc vE) 21 [.int .i64 65537, .str [120]] st K = K (.str (X 65537)) st q0 := fun st K => by
    have := call_many (n := 65537) (s := [120]) (by omega) (by decide) (by show 65537 * 1 ≤ 1000000; omega) st K
    rw [rep_one] at this; exact this
  have m2 : ∀ {β : Type} (st : St) (K : Kv β), callS (orc vE) 21 [.int .i64 65536, .str [120]] st K = K (.str (X 65536)) st q0 := fun st K => by
    have := call_many (n := 65536) (s := [120]) (by omega) (by decide) (by show 65536 * 1 ≤ 1000000; omega) st K
    rw [rep_one] at this; exact this
  have l1 : (X 65537).length = 65537 := List.length_replicate
  have hbig : Big (X 65536) := big_of rfl
  generalize X 65537 = b1 at m1 l1
  generalize X 65536 = b at m2 hbig
  have l2 := hbig.len
  have v2 := hbig.valid
  simp only [g5, hs0, call_works, asB_bool, Bool.not_true, ifB_false, c1]
  generalize s0.h = sp at w1
  clear hs0 hr0 c1 k1 a1
  refine Goes.bind (R := fun a => ∃ s t, a = ([.bool false], s) ∧ T.text t = b ∧ Wo s sp [⟨[97], [(0, t)]⟩]) ?_ ?_
  · refine go_open_no w1 1 1 rfl rfl (by decide) (by simp) fun s fx w => ?_
    simp only [asI_int, bne_self_eq_false, ifB_false]
    refine go_open_no w 1 1 rfl rfl (by decide) (by simp) fun s fx w => ?_
    simp only [asI_int, bne_self_eq_false, ifB_false, m1, asS_str]
    refine go_open_no w 40 40 rfl (openE_large rfl (by simp) rfl (by omega)) (by decide) (by omega) fun s fx w => ?_
    simp only [asI_int, bne_self_eq_false, ifB_false]
    refine go_open_no w 4 4 rfl rfl (by decide) (by simp) fun s fx w => ?_
    simp only [asI_int, bne_self_eq_false, ifB_false, m2, asS_str]
    refine go_open w (openE_ok rfl (by simp) rfl (by omega) v2) fun s fx t wt tt w => ?_
    simp only [asI_int, bne_self_eq_false, ifB_false]
    refine go_open_no w 6 6 rfl rfl (by decide) (by simp) fun s fx w => ?_
    simp only [asI_int, bne_self_eq_false]
    exact Goes.some ⟨s, t, rfl, tt, w⟩
  · rintro a ⟨s, t, rfl, tt, w⟩
    simp only [unc_cons, asB_bool, un0_nil, ifB_false]
    have hl : ([(0, t)] : List (Int × T)).getLast? = some (0, t) := rfl
    refine Goes.bind (R := fun a => ∃ s, a = ([.bool false], s) ∧ Wo s sp [⟨[97], [(0, t)]⟩]) ?_ ?_
    · refine go_change_no (cs := []) w IsSl.nils 5 5 rfl rfl (by simp) (by simp) fun s fx w => ?_
      simp only [asI_int, bne_self_eq_false, ifB_false]
      refine go_change_no (cs := []) w IsSl.nils 1 1 rfl rfl (by simp) (by simp) fun s fx w => ?_
      simp only [asI_int, bne_self_eq_false, ifB_false]
      refine go_change_no (cs := []) w IsSl.nils 67 67 rfl rfl (by simp) (by simp) fun s fx w => ?_
      simp only [asI_int, bne_self_eq_false, ifB_false, call_atR, unA_agg, unc_cons, un0_nil, call_prt, chgV, asB_bool, asS_str]
      refine go_change_no (cs := [⟨false, 0, 0, 0, 0, [121]⟩]) w (IsSl.shut (by simp)) 40 40 rfl ?_ (by simp) (by simp) fun s fx w => ?_
      · rw [ch1 hl rfl (by show (0 : Int) < 1; decide), tt, hbig.e1]
      simp only [asI_int, bne_self_eq_false, ifB_false, call_atR, unA_agg, unc_cons, un0_nil, call_prt, chgV, asB_bool, asS_str]
      refine go_change_no (cs := [⟨false, 0, 0, 0, 1, [255]⟩]) w (IsSl.shut (by simp)) 4 4 rfl ?_ (by simp) (by simp) fun s fx w => ?_
      · rw [ch1 hl rfl (by show (0 : Int) < 1; decide), tt, hbig.e2]
      simp only [asI_int, bne_self_eq_false, ifB_false, m1, asS_str]
      refine go_change_no (cs := [⟨true, 0, 0, 0, 0, b1⟩]) w (IsSl.shut (by simp)) 40 40 rfl ?_ (fun c hc => by rw [List.mem_singleton.1 hc]; show b1.length ≤ _; omega) (by simp) fun s fx w => ?_
      · rw [ch1 hl rfl (by show (0 : Int) < 1; decide), tt]
        unfold doneL
        rw [done_whole, if_pos (by omega)]
      simp only [asI_int, bne_self_eq_false, ifB_false, call_atR, unA_agg, unc_cons, un0_nil, call_prt, chgV, asB_bool, asS_str]
      refine go_change_no (cs := [⟨false, 0, 2, 0, 1, []⟩]) w (IsSl.shut (by simp)) 60 60 rfl ?_ (by simp) (by simp) fun s fx w => ?_
      · rw [ch1 hl rfl (by show (0 : Int) < 1; decide), tt, hbig.e3]
      simp only [asI_int, bne_self_eq_false, ifB_false, call_atR, unA_agg, unc_cons, un0_nil, call_prt, chgV, asB_bool, asS_str]
      refine go_change_no (cs := [⟨false, 0, 0, 0, 9, []⟩, ⟨false, 9, 0, 9, 0, []⟩]) w (IsSl.shut (by simp)) 60 60 rfl ?_ (fun c hc => by
        rcases List.mem_cons.1 hc with rfl | hc
        · simp
        · rw [List.mem_singleton.1 hc]; simp) (by simp) fun s fx w => ?_
      · rw [ch1 hl rfl (by show (0 : Int) < 1; decide), tt, hbig.e4]
      simp only [asI_int, bne_self_eq_false, ifB_false, m2, asS_str]
      refine go_last w ?_ fun s fx w => ?_
      · rw [← tt]; rfl
      simp only [asB_bool, Bool.not_true]
      exact Goes.some ⟨s, rfl, w⟩
    · rintro a ⟨s, rfl, w⟩
      simp only [unc_cons, asB_bool, un0_nil, ifB_false]
      refine Goes.bind (names_L1 b sp 11 0 s [(0, t)] rfl ⟨by show [((0 : Int), t.text)] = _; rw [tt]; rfl, _, rfl, rfl⟩ w) ?_
      rintro ⟨r, b', s⟩ ⟨h1, h2, vs, hv, w⟩
      simp only at h1 h2 w
      subst h1; subst h2
      simp only [unc_cons, asB_bool, un0_nil, sel2_zero]
      obtain ⟨hv1, v, hv2, hv3⟩ := hv
      have hvl : vs.length = 12 := by
        have := congrArg List.length hv1
        simpa [wantV] using this
      have hk : (⟨[97], vs⟩ : Dc).kept.map fV = (wantV b 11).drop 4 := by
        show (vs.drop (vs.length - 8)).map fV = _
        rw [hvl, List.map_drop, hv1]
      have hdoc : docN' [97] [⟨[97], vs⟩] = some ⟨[97], vs⟩ := rfl
      have hat : ∀ no, atT [⟨[97], vs⟩] [97] no = verT no ((wantV b 11).drop 4) := fun no => by
        unfold atT
        rw [hdoc, ← hk, ← verF_T]
        rfl
      have hlt : v.2.text = rep 11 eu := by
        have h1 : (vs.map fV).getLast? = some (fV v) := by rw [List.getLast?_map, hv2]; rfl
        rw [hv1] at h1
        have h2 : (wantV b 11).getLast? = some ((((10 + 1) * (10 + 1) : Nat) : Int), rep (10 + 1) eu) := rfl
        rw [h2] at h1
        injection h1 with h1
        injection h1 with _ h1
        exact h1.symm
      refine go_kept w hdoc fun x sk fx ox w => ?_
      simp only [unT_tup, nthS_zero, nthS_one, asI_int]
      refine go_at w fun s fx w => ?_
      rw [hat, show verT 9 ((wantV b 11).drop 4) = none from rfl]
      simp only [unT_tup, nthS_zero, nthS_one, asI_int, asS_str]
      refine go_at w fun s fx w => ?_
      rw [hat, show verT 16 ((wantV b 11).drop 4) = some (rep 4 eu) from rfl]
      simp only [unT_tup, nthS_zero, nthS_one, asI_int, asS_str]
      refine go_at w fun s fx w => ?_
      rw [hat, show verT 17 ((wantV b 11).drop 4) = none from rfl]
      simp only [unT_tup, nthS_zero, nthS_one, asI_int, asS_str]
      refine Goes.bind (R := fun a => ∃ s vs', a = ([.bool false], s) ∧ Wo s sp [⟨[97], vs'⟩]) ?_ ?_
      · have hnos : (⟨[97], vs⟩ : Dc).kept.map (·.1) = [16, 25, 36, 49, 64, 81, 100, 121] := by
          have : (⟨[97], vs⟩ : Dc).kept.map (·.1) = ((⟨[97], vs⟩ : Dc).kept.map fV).map (·.1) := by rw [List.map_map]; rfl
          rw [this, hk]; rfl
        have hni : (⟨[97], vs⟩ : Dc).kept.map noV = ((⟨[97], vs⟩ : Dc).kept.map (·.1)).map inV := by rw [List.map_map]; rfl
        rw [hni] at ox
        have ci := fun {β : Type} (st : St) (K : Kv β) => call_ints (x := x) (b := [16, 25, 36, 49, 64, 81, 100, 121]) ox (IsSl.shut (z := 1) (by simp)) st K
        rw [hnos, decide_eq_true rfl] at ci
        have ci : ∀ {β : Type} (st : St) (K : Kv β), callS (orc vE) 20 [x, .sl 1 [.int .i64 16, .int .i64 25, .int .i64 36, .int .i64 49, .int .i64 64, .int .i64 81, .int .i64 100, .int .i64 121] .shut] st K = K (.bool true) st q0 := ci
        have m4 : ∀ {β : Type} (st : St) (K : Kv β), callS (orc vE) 21 [.int .i64 4, .str [226, 130, 172]] st K = K (.str (rep 4 eu)) st q0 := fun st K => call_many (n := 4) (s := eu) (by omega) (by decide) (by decide) st K
        have m11 : ∀ {β : Type} (st : St) (K : Kv β), callS (orc vE) 21 [.int .i64 11, .str [226, 130, 172]] st K = K (.str (rep 11 eu)) st q0 := fun st K => call_many (n := 11) (s := eu) (by omega) (by decide) (by decide) st K
        simp only [bne_self_eq_false, ifB_false, ci, asB_bool, Bool.not_true, m4, asS_str, beq_self_eq_true]
        refine go_change_no (cs := []) w IsSl.nils 1 1 rfl rfl (by simp) (by simp) fun s fx w => ?_
        simp only [asI_int, bne_self_eq_false, ifB_false]
        have he := ch1 hv2 (no := 2147483647) rfl (by rw [hv3]; decide) [] []
        refine go_change (cs := []) w IsSl.nils he (by simp) (by simp) fun s fx d t2 hd wt tt2 w => ?_
        simp only [List.getElem?_cons_zero, Option.some.injEq] at hd
        subst hd
        simp only [asI_int, bne_self_eq_false, ifB_false, m11, asS_str]
        refine go_last w ?_ fun s fx w => ?_
        · have hg : (vs ++ [((2147483647 : Int), t2)]).getLast? = some (2147483647, t2) := List.getLast?_concat
          show (match ((some (⟨[97], vs ++ [((2147483647 : Int), t2)]⟩ : Dc)).bind fun d => d.vs.getLast?) with
            | none => ((0 : Int), ([] : B), (5 : Int))
            | some v => (v.1, v.2.text, 0)) = _
          simp only [Option.bind_some, hg, tt2, hlt]
        simp only [asB_bool, Bool.not_true]
        exact Goes.some ⟨s, _, rfl, w⟩
      · rintro a ⟨s, vs', rfl, w⟩
        simp only [unc_cons, asB_bool, un0_nil, ifB_false]
        refine Goes.bind (names_L2 sp vs' 31 0 s [] rfl rfl w) ?_
        rintro ⟨r, b', s⟩ ⟨h1, h2, l, hl31, w⟩
        simp only at h1 h2 w
        subst h1; subst h2
        simp only [unc_cons, asB_bool, un0_nil, sel2_zero]
        obtain ⟨d1, l', rfl⟩ : ∃ d1 l', l = d1 :: l' := by
          cases l with
          | nil => cases hl31
          | cons d1 l' => exact ⟨d1, l', rfl⟩
        have hl1 : d1.nm = [110] ∧ l'.map Dc.nm = (List.range 30).map fun i => rep (i + 2) [110] := by
          have e : wantN 31 = [110] :: (List.range 30).map fun i => rep (i + 2) [110] := rfl
          rw [e, List.map_cons] at hl31
          injection hl31 with e1 e2
          exact ⟨e1, e2⟩
        obtain ⟨hd1, hl'⟩ := hl1
        have hll : l'.length = 30 := by
          have := congrArg List.length hl'
          simpa using this
        have hnz : ∀ d ∈ l', d.nm ≠ [122] ∧ d.nm ≠ [110] := fun d hd => by
          have : d.nm ∈ (List.range 30).map fun i => rep (i + 2) [110] := by rw [← hl']; exact List.mem_map_of_mem hd
          obtain ⟨i, _, hi⟩ := List.mem_map.1 this
          rw [← hi]
          constructor <;> intro e <;> (have := congrArg List.length e; rw [rep_len] at this; simp at this)
        have hfz : findN [122] (⟨[97], vs'⟩ :: d1 :: l') 0 = none := findN_not (fun d hd => by
          rcases List.mem_cons.1 hd with rfl | hd
          · exact (by decide : ([97] : B) ≠ [122])
          · rcases List.mem_cons.1 hd with rfl | hd
            · rw [hd1]; decide
            · exact (hnz d hd).1) 0
        have hfn : findN [110] (⟨[97], vs'⟩ :: d1 :: l') 0 = some 1 := by
          show (if ([97] : B) = [110] then some 0 else if d1.nm = [110] then some 1 else findN [110] l' 2) = _
          rw [if_neg (by decide), if_pos hd1]
        have hfn2 : findN [110] (⟨[97], vs'⟩ :: l') 0 = none := findN_not (fun d hd => by
          rcases List.mem_cons.1 hd with rfl | hd
          · exact (by decide : ([97] : B) ≠ [110])
          · exact (hnz d hd).2) 0
        have hfz2 : findN [122] (⟨[97], vs'⟩ :: l') 0 = none := findN_not (fun d hd => by
          rcases List.mem_cons.1 hd with rfl | hd
          · exact (by decide : ([97] : B) ≠ [122])
          · exact (hnz d hd).1) 0
        refine Goes.bind (R := fun a => ∃ s, a = ([.bool false], s)) ?_ ?_
        · refine go_open_no w 3 3 rfl (openE_full hfz (by simp only [List.length_cons]; omega)) (by decide) (by simp) fun s fx w => ?_
          simp only [asI_int, bne_self_eq_false, ifB_false]
          refine go_open_no w 6 6 rfl rfl (by decide) (by simp) fun s fx w => ?_
          simp only [asI_int, bne_self_eq_false, ifB_false]
          refine go_close w hfn fun s fx w => ?_
          simp only [asI_int, bne_self_eq_false, ifB_false]
          have w : Wo s sp (⟨[97], vs'⟩ :: l') := w
          refine go_close_no w hfn2 fun s fx w => ?_
          simp only [asI_int, bne_self_eq_false, ifB_false]
          refine go_open w (openE_ok hfz2 (by rw [List.length_cons]; omega) rfl (by simp) rfl) fun s fx t wt tt w => ?_
          simp only [asI_int, bne_self_eq_false, ifB_false]
          have h32 : ((((⟨[97], vs'⟩ : Dc) :: l') ++ [(⟨[122], [(0, t)]⟩ : Dc)]).map nmV).length = 32 := by
            simp only [List.length_map, List.length_append, List.length_cons, List.length_nil]; omega
          have h31 : ((((⟨[97], vs'⟩ : Dc) :: l') ++ [(⟨[122], [(0, t)]⟩ : Dc)]).map nmV)[31]? = some (.str [122]) := by
            rw [List.getElem?_map, List.getElem?_append_right (by rw [List.length_cons]; omega), List.length_cons, hll]; rfl
          have h0 : ((((⟨[97], vs'⟩ : Dc) :: l') ++ [(⟨[122], [(0, t)]⟩ : Dc)]).map nmV)[0]? = some (.str [97]) := rfl
          refine go_names w fun x s fx ox w => ?_
          simp only [own_len ox, h32]
          simp only [show (((32 : Nat) : Int) != 32) = false from rfl, ifB_false]
          refine go_names w fun x s fx ox w => ?_
          have i31 : ∀ {β : Type} (st : St) (K : AV → List Nat → Option β), idxA 1 x 31 st K = K (.ip [.str [122]]) [] := fun st K => own_idx ox h31 st K
          simp only [i31, loadS_ip, tl1, asS_str, beq_self_eq_true, Bool.not_true, ifB_false]
          refine go_names w fun x s fx ox w => ?_
          have i0 : ∀ {β : Type} (st : St) (K : AV → List Nat → Option β), idxA 1 x 0 st K = K (.ip [.str [97]]) [] := fun st K => own_idx ox h0 st K
          simp only [i0, loadS_ip, tl1, asS_str, beq_self_eq_true, Bool.not_true]
          exact Goes.some ⟨s, rfl⟩
        · rintro a ⟨s, rfl⟩
          have n1 : ∀ {β : Type} (st : St) (K : Kv β), callS (orc vE) 14 [.nilp, .str [97]] st K = K (.tup [.int .i64 0, .str [], .int .i64 2]) st q0 := fun st K => callS_bare st K rfl rfl rfl (orc_bare (n := 100) (by kernel_rfl))
          have n2 : ∀ {β : Type} (st : St) (K : Kv β), callS (orc vE) 17 [.nilp, .str [97], .int .i64 0] st K = K (.tup [.str [], .int .i64 2]) st q0 := fun st K => callS_bare st K rfl rfl rfl (orc_bare (n := 100) (by kernel_rfl))
          have n3 : ∀ {β : Type} (st : St) (K : Kv β), callS (orc vE) 16 [.nilp, .str [97]] st K = K (.tup [.nils, .int .i64 2]) st q0 := fun st K => callS_bare st K rfl rfl rfl (orc_bare (n := 100) (by kernel_rfl))
          have n4 : ∀ {β : Type} (st : St) (K : Kv β), callS (orc vE) 10 [.nilp, .str [97], .int .i64 0, .str []] st K = K (.int .i64 2) st q0 := fun st K => callS_bare st K rfl rfl rfl (orc_bare (n := 100) (by kernel_rfl))
          have n5 : ∀ {β : Type} (st : St) (K : Kv β), callS (orc vE) 11 [.nilp, .str [97], .int .i64 0, .nils] st K = K (.int .i64 2) st q0 := fun st K => callS_bare st K rfl rfl rfl (orc_bare (n := 100) (by kernel_rfl))
          have n6 : ∀ {β : Type} (st : St) (K : Kv β), callS (orc vE) 18 [.nilp, .str [97]] st K = K (.int .i64 2) st q0 := fun st K => callS_bare st K rfl rfl rfl (orc_bare (n := 100) (by kernel_rfl))
          have n7 : ∀ {β : Type} (st : St) (K : Kv β), callS (orc vE) 15 [.nilp] st K = K .nils st q0 := fun st K => callS_bare st K rfl rfl rfl (orc_bare (n := 100) (by kernel_rfl))
          have n8 : ∀ {β : Type} (st : St) (K : Kv β), callS (orc vE) 24 [.nilp] st K = K .nilp st q0 := fun st K => callS_bare st K rfl rfl rfl (orc_bare (n := 100) (by kernel_rfl))
          simp only [unc_cons, asB_bool, un0_nil, ifB_false, n1, n2, n3, n4, n5, n6, n7, n8, unT_tup, nthS_zero, nthS_one, nthS_two, asI_int, asS_str, beq_self_eq_true, ifB_true, lenS_nils]
          exact Goes.some rfl
end Go.Proofs.YticccmpaekphgaaDoor.Vm
/- The store's laws: arguments. -/
set_option maxRecDepth 100000
namespace Go.Proofs.YticccmpaekphgaaDoor.Vm
open Go Go.VM Go.Proofs Go.Store

def lawS : List TypeId := [9, 3, 4, 5, 53, 55, 66, 22, 26, 27]
theorem lawS_ok : ∀ t, inS lawS t = true → okTy Tryd.prog lawS t = true := by
  intro t ht
  have : t ∈ lawS := by
    obtain ⟨u, hu, e⟩ := List.any_eq_true.1 ht
    rw [← Nat.eq_of_beq_eq_true e]; exact hu
  exact List.all_eq_true.1 (show (lawS.all fun t => okTy Tryd.prog lawS t) = true by kernel_rfl) t this
end Go.Proofs.YticccmpaekphgaaDoor.Vm
