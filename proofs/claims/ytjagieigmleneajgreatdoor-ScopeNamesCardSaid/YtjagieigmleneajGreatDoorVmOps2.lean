/- More operations. -/
import Derived.Test.YtjagieigmleneajGreatDoorVmOps
namespace Go.VM
section
variable {P : Program} {T : TT} {A : Nat → Prop} {g : Gh} {st : St} {w : World}

theorem str_get (s : List UInt8) (k : Nat) : (⟨s.toArray⟩ : ByteArray)[k]? = s[k]? := by
  by_cases h : k < s.length
  · rw [List.getElem?_eq_getElem h, getElem?_pos (⟨s.toArray⟩ : ByteArray) k (by simpa [ByteArray.size] using h)]
    simp [ByteArray.getElem_eq_getElem_data]
  · rw [List.getElem?_eq_none (Nat.le_of_not_lt h), getElem?_neg (⟨s.toArray⟩ : ByteArray) k (by simpa [ByteArray.size] using h)]
theorem str_size (s : List UInt8) : (⟨s.toArray⟩ : ByteArray).size = s.length := by simp [ByteArray.size]

theorem index_sound (hT : TOk P T) {t : TypeId} {a ix v : AV} {x y : Value} (hp : indexV T t a ix = .ok v) (hx : R g a x) (hy : R g ix y) (h : Inv T A g st w) :
    Gives P T A g w v st (Instr.index t x y) := by
  simp only [indexV, bind_ok] at hp
  obtain ⟨n, h0, i, h1, h2⟩ := hp
  obtain ⟨kd, rfl⟩ := asInt_R h0 hy
  have hi := hT t i (ti_ok.1 h1)
  split at h2
  · rename_i s hu
    have k1 := und_str hi hu
    simp only [bind_ok] at h2
    obtain ⟨k, h3, h5⟩ := h2
    obtain ⟨rfl, hk⟩ := inside_ok h3
    split at h5
    · rename_i b hb
      simp only [pure_ok] at h5
      subst h5
      simp only [R] at hx
      subst hx
      refine Gives.of h (x := .int .u8 b.toNat) ?_ (by simp only [R])
      simp [Instr.index, asIntOf, k1, str_get, hb]
    · cases h5
  · rename_i len e cs hu
    have k1 := und_arr hi hu
    simp only [bind_ok] at h2
    obtain ⟨k, h3, j, h4, h5⟩ := h2
    obtain ⟨rfl, hk⟩ := inside_ok h3
    have hj := hT _ j (ti_ok.1 h4)
    simp only [R] at hx
    obtain ⟨ys, rfl, hr⟩ := hx
    obtain ⟨y, e1, e2⟩ := part_sound (w := w) hj h5 hr
    refine Gives.of h (x := y) ?_ e2
    have hkn : ¬ (len ≤ k) := by omega
    simp [Instr.index, asIntOf, k1, hkn, hj.run_size, e1]
  · cases h2

/-- The bounds. -/
def OptR (n : Option Int) (x : Option Value) : Prop := match n, x with | none, none => True | some n, some y => ∃ k, y = .int k n | _, _ => False
def ORel (g : Gh) (a : Option AV) (x : Option Value) : Prop := match a, x with | none, none => True | some v, some y => R g v y | _, _ => False
theorem optInt_OptR {a : Option AV} {n : Option Int} {x : Option Value} (h : optInt a = .ok n) (hx : ORel g a x) : OptR n x := by
  cases a with
  | none =>
    cases x with
    | none => simp only [optInt, Except.ok.injEq] at h; subst h; trivial
    | some y => exact hx.elim
  | some v =>
    cases x with
    | none => exact hx.elim
    | some y =>
      simp only [optInt, bind_ok, pure_ok] at h
      obtain ⟨m, h1, rfl⟩ := h
      exact asInt_R h1 hx

theorem run_sliceBound {k : IntKind} {n m : Nat} {code : BoundsCode} (h : n ≤ m) : (Instr.sliceBound (.int k n) m code).run P w = .ok n w := by
  simp [Instr.sliceBound, asIntOf, h]

theorem run_bounds {isSlice : Bool} {len cap dflt : Nat} {lo hi mx : Option Int} {xl xh xm : Option Value} {l hh m : Nat} (hl : OptR lo xl) (hhi : OptR hi xh) (hm : OptR mx xm)
    (h1 : hiOf mx cap cap = .ok m) (h2 : hiOf hi m dflt = .ok hh) (hd : mx = none → dflt = len) (h3 : loOf lo hh = .ok l) (hmx : mx ≠ none → hi ≠ none) :
    (Instr.sliceBounds isSlice len cap xl xh xm).run P w = .ok (l, hh, m) w := by
  have b1 : ∀ {k : IntKind} {n m : Nat} {code : BoundsCode}, n ≤ m → (Instr.sliceBound (.int k n) m code).run P w = .ok n w := fun h => run_sliceBound h
  cases xm <;> cases mx <;> first | exact hm.elim | skip
  · have hd := hd rfl
    subst hd
    simp only [hiOf, Except.ok.injEq] at h1
    subst h1
    cases xh <;> cases hi <;> first | exact hhi.elim | skip
    · simp only [hiOf, Except.ok.injEq] at h2
      subst h2
      cases xl <;> cases lo <;> first | exact hl.elim | skip
      · simp only [loOf, Except.ok.injEq] at h3
        subst h3
        simp [Instr.sliceBounds]
      · obtain ⟨k, rfl⟩ := hl
        obtain ⟨rfl, hle⟩ := upto_ok h3
        simp [Instr.sliceBounds, b1 hle]
    · obtain ⟨k, rfl⟩ := hhi
      obtain ⟨rfl, hle2⟩ := upto_ok h2
      cases xl <;> cases lo <;> first | exact hl.elim | skip
      · simp only [loOf, Except.ok.injEq] at h3
        subst h3
        simp [Instr.sliceBounds, b1 hle2]
      · obtain ⟨k, rfl⟩ := hl
        obtain ⟨rfl, hle⟩ := upto_ok h3
        simp [Instr.sliceBounds, b1 hle, b1 hle2]
  · obtain ⟨k0, rfl⟩ := hm
    obtain ⟨rfl, hle1⟩ := upto_ok h1
    cases xh <;> cases hi <;> first | exact hhi.elim | skip
    · exact absurd rfl (hmx (by simp))
    · obtain ⟨k, rfl⟩ := hhi
      obtain ⟨rfl, hle2⟩ := upto_ok h2
      cases xl <;> cases lo <;> first | exact hl.elim | skip
      · simp only [loOf, Except.ok.injEq] at h3
        subst h3
        simp [Instr.sliceBounds, b1 hle1, b1 hle2]
      · obtain ⟨k, rfl⟩ := hl
        obtain ⟨rfl, hle⟩ := upto_ok h3
        simp [Instr.sliceBounds, b1 hle1, b1 hle, b1 hle2]

theorem str_extract (s : List UInt8) (l h : Nat) : (⟨s.toArray⟩ : ByteArray).extract l h = ⟨((s.take h).drop l).toArray⟩ := by
  apply ByteArray.ext
  simp [ByteArray.data_extract, List.drop_take]

theorem slice_str_sound {t : TypeId} {i : TI} (hi : TIOk P t i) (hu : i.und = .str) {s : List UInt8} {lo hh : Option Int} {xl xh : Option Value} {l m : Nat} (hl : OptR lo xl) (hhi : OptR hh xh)
    (h2 : hiOf hh s.length s.length = .ok m) (h3 : loOf lo m = .ok l) :
    (Instr.sliceAt t (.string ⟨s.toArray⟩) xl xh none).run P w = .ok (.string ⟨((s.take m).drop l).toArray⟩) w := by
  have k1 := und_str hi hu
  have hb := run_bounds (P := P) (w := w) (isSlice := false) (len := s.length) (cap := s.length) (mx := none) (xm := none) hl hhi trivial (m := s.length) (dflt := s.length) rfl h2 (fun _ => rfl) h3 (by simp)
  simp [Instr.sliceAt, Instr.slice, k1, str_size, hb, str_extract]


theorem run_slice {t e : TypeId} (k1 : ∀ w, (underlying t).run P w = .ok (.slice e) w) (a : Option Addr) (len cap : Nat) (xl xh xm : Option Value) {l hh m sz : Nat}
    (hb : (Instr.sliceBounds true len cap xl xh xm).run P w = .ok (l, hh, m) w) (hs : (sizeOf e).run P w = .ok sz w) :
    (Instr.sliceAt t (.slice a len cap) xl xh xm).run P w = .ok (.slice (if m = l then a else a.map (·.add (l * sz))) (hh - l) (m - l)) w := by
  simp [Instr.sliceAt, Instr.slice, k1, hb, hs]

theorem upto_mk {k n : Nat} (h : k ≤ n) : upto (k : Int) n = .ok k := by
  have : k.ble n = true := Nat.ble_eq_true_of_le h
  show (match k.ble n with | true => Except.ok k | false => Except.error _) = _
  rw [this]
theorem hiOf_le {hi : Option Int} {m d h : Nat} (e : hiOf hi m d = .ok h) (hd : d ≤ m) : h ≤ m := by
  cases hi with
  | none => simp only [hiOf, Except.ok.injEq] at e; omega
  | some n => exact (upto_ok e).2
theorem loOf_le {lo : Option Int} {h l : Nat} (e : loOf lo h = .ok l) : l ≤ h := by
  cases lo with
  | none => simp only [loOf, Except.ok.injEq] at e; omega
  | some n => exact (upto_ok e).2

theorem RAtE_nil_any {z b o : Nat} {l : List AV} (h : l = []) : RAtE g z l b o := by subst h; simp [RAtE]

/-- Part of a slice that never changes. -/
theorem slice_sl {z : Nat} {es : List AV} {b o l hh m : Nat} (hb : bares es = true) (hz : 1 ≤ z) (hr : RAtE g z es b o) (hlh : l ≤ hh) (hhe : hh ≤ es.length) (hhm : hh ≤ m) {p : Perm}
    (hp : (m ≠ l → permR g p (hh - l) b (o + l * z) (m - l)) ∧ (m = l → permR g p (hh - l) b o (m - l))) :
    R g (.sl z ((es.take hh).drop l) p) (.slice (if m = l then some ⟨b, o, none⟩ else (some (⟨b, o, none⟩ : Addr)).map (·.add (l * z))) (hh - l) (m - l)) := by
  have hlen : ((es.take hh).drop l).length = hh - l := by simp; omega
  simp only [R, hlen]
  refine ⟨bares_drop _ (bares_take _ hb), ?_⟩
  by_cases hml : m = l
  · rw [if_pos hml]
    refine ⟨b, o, m - l, rfl, by omega, hz, RAtE_nil_any ?_, hp.2 hml⟩
    apply List.eq_nil_of_length_eq_zero; omega
  · rw [if_neg hml]
    refine ⟨b, o + l * z, m - l, by simp [Addr.add_at], by omega, hz, ?_, hp.1 hml⟩
    exact RAtE_drop _ (RAtE_take _ hr) (by simp; omega)

theorem slice_sound (hT : TOk P T) {t : TypeId} {a v : AV} {x : Value} {lo hi mx : Option AV} {xl xh xm : Option Value} (hp : sliceV T t a lo hi mx = .ok v) (hx : R g a x)
    (hl : ORel g lo xl) (hhi : ORel g hi xh) (hm : ORel g mx xm) (h : Inv T A g st w) (hmx : mx ≠ none → hi ≠ none) : Gives P T A g w v st (Instr.sliceAt t x xl xh xm) := by
  simp only [sliceV, bind_ok] at hp
  obtain ⟨nl, e1, nh, e2, nm, e3, i, e4, h2⟩ := hp
  have hi' := hT t i (ti_ok.1 e4)
  have ol := optInt_OptR e1 hl
  have oh := optInt_OptR e2 hhi
  have om := optInt_OptR e3 hm
  have hmx' : nm ≠ none → nh ≠ none := fun hn => by
    have : mx ≠ none := fun e => by subst e; simp only [optInt, Except.ok.injEq] at e3; exact hn e3.symm
    have := hmx this
    cases hi with
    | none => exact absurd rfl this
    | some y =>
      simp only [optInt, bind_ok, pure_ok] at e2
      obtain ⟨_, _, rfl⟩ := e2
      simp
  split at h2
  · rename_i s hu
    simp only [bind_ok, pure_ok] at h2
    obtain ⟨m, f1, l, f2, rfl⟩ := h2
    simp only [R] at hx
    subst hx
    cases xm with
    | some y => exact om.elim
    | none => exact Gives.of h (slice_str_sound hi' hu ol oh f1 f2) (by simp only [R])
  · rename_i e hu
    simp only [bind_ok, pure_ok] at h2
    obtain ⟨j, f0, m, f1, l, f2, rfl⟩ := h2
    have hj := hT _ j (ti_ok.1 f0)
    simp only [R] at hx
    subst hx
    cases xm with
    | some y => exact om.elim
    | none =>
      have hm0 := hiOf_le f1 (Nat.le_refl _)
      have hl0 := loOf_le f2
      have hb := run_bounds (P := P) (w := w) (isSlice := true) (len := 0) (cap := 0) (mx := none) (xm := none) ol oh trivial (m := 0) (dflt := 0) rfl f1 (fun _ => rfl) f2 (by simp)
      have := run_slice (und_slice hi' hu) none 0 0 xl xh none hb (hj.run_size w)
      refine Gives.of h (x := .slice none 0 0) ?_ (by simp only [R])
      rw [this]
      have h0 : m - l = 0 := by omega
      have h1 : 0 - l = 0 := by omega
      simp [h0, h1]
  · rename_i e id off sz len cap hu
    simp only [bind_ok] at h2
    obtain ⟨j, f0, h3⟩ := h2
    split at h3
    · cases h3
    · rename_i hsz
      have hsz := Nat.eq_of_beq_eq_true hsz
      have hj := hT _ j (ti_ok.1 f0)
      simp only [bind_ok] at h3
      obtain ⟨m, f1, hh, f2, l, f3, h4⟩ := h3
      split at h4
      · rename_i hle
        have hle := Nat.le_of_ble_eq_true hle
        simp only [pure_ok] at h4
        subst h4
        simp only [R] at hx
        obtain ⟨b, o, hE, rfl, hc, hz1, ho⟩ := hx
        have hb := run_bounds (P := P) (w := w) (isSlice := true) (len := len) (cap := cap) (dflt := len) ol oh om f1 f2 (fun _ => rfl) f3 hmx'
        have := run_slice (und_slice hi' hu) (some ⟨b, o, none⟩) len cap xl xh xm hb (hj.run_size w)
        refine Gives.of h this ?_
        have hl0 := loOf_le f3
        simp only [R]
        by_cases hml : m = l
        · rw [if_pos hml]
          exact ⟨b, o, hE, rfl, by omega, hz1, fun hne => absurd (by omega : m - l = 0) hne⟩
        · rw [if_neg hml]
          have hcap : cap ≠ 0 := fun e => by
            have := hiOf_le f1 (Nat.le_refl _)
            omega
          refine ⟨b, o + l * j.size, hE, by simp [Addr.add_at], by omega, hz1, fun _ => by rw [ho hcap, hsz]⟩
      · cases h4
  · rename_i e sz es p hu
    simp only [bind_ok] at h2
    obtain ⟨j, f0, h3⟩ := h2
    split at h3
    · cases h3
    · rename_i hsz
      have hsz := Nat.eq_of_beq_eq_true hsz
      have hj := hT _ j (ti_ok.1 f0)
      simp only [bind_ok] at h3
      obtain ⟨hh, f2, l, f3, h4⟩ := h3
      simp only [R] at hx
      obtain ⟨hb0, b, o, cap, rfl, hc, hz1, hr, hperm⟩ := hx
      cases xm with
      | some y => exact om.elim
      | none =>
        have f2' : hiOf nh cap es.length = .ok hh := by
          cases nh with
          | none => exact f2
          | some n =>
            obtain ⟨rfl, hq⟩ := upto_ok f2
            exact upto_mk (by omega)
        have hb := run_bounds (P := P) (w := w) (isSlice := true) (len := es.length) (cap := cap) (mx := none) (xm := none) (dflt := es.length) (m := cap) ol oh trivial rfl f2' (fun _ => rfl) f3 (by simp)
        have hrun := run_slice (und_slice hi' hu) (some ⟨b, o, none⟩) es.length cap xl xh none hb (hj.run_size w)
        have hhe := hiOf_le f2 (Nat.le_refl _)
        have hl0 := loOf_le f3
        rw [← hsz] at hrun
        refine Gives.of h hrun ?_
        have wide : R g (.sl sz ((es.take hh).drop l) .wide) (.slice (if cap = l then some ⟨b, o, none⟩ else (some (⟨b, o, none⟩ : Addr)).map (·.add (l * sz))) (hh - l) (cap - l)) :=
          slice_sl hb0 hz1 hr hl0 hhe (by omega) ⟨fun _ => trivial, fun _ => trivial⟩
        split at h4
        · rename_i hq
          have hq := Nat.eq_of_beq_eq_true hq
          simp only [pure_ok] at h4
          subst h4
          have hcap : cap = es.length := hperm
          have := slice_sl (m := cap) (p := .shut) hb0 hz1 hr hl0 hhe (by omega) ⟨fun _ => by show cap - l = hh - l; omega, fun _ => by show cap - l = hh - l; omega⟩
          rwa [List.take_of_length_le (by omega)] at this
        · rename_i k hq
          have hq := Nat.eq_of_beq_eq_true hq
          split at h4
          · rename_i hl
            have hl := Nat.eq_of_beq_eq_true hl
            subst hl
            simp only [pure_ok] at h4
            subst h4
            obtain ⟨ho0, hloc⟩ := hperm
            subst ho0
            have hx : (if cap = 0 then some (⟨b, 0, none⟩ : Addr) else (some (⟨b, 0, none⟩ : Addr)).map (·.add (0 * sz))) = some ⟨b, 0, none⟩ := by
              split <;> simp [Addr.add_at]
            simp only [R]
            refine ⟨hb0, b, 0, cap, ?_, hc, hz1, hr, rfl, hloc⟩
            rw [hx]
            simp [hq]
          · simp only [pure_ok] at h4
            subst h4
            rwa [List.take_of_length_le (by omega)] at wide
        · simp only [pure_ok] at h4
          subst h4
          exact wide
  · rename_i e sz es p m0 hu
    simp only [bind_ok] at h2
    obtain ⟨j, f0, h3⟩ := h2
    split at h3
    · cases h3
    · rename_i hsz
      have hsz := Nat.eq_of_beq_eq_true hsz
      have hj := hT _ j (ti_ok.1 f0)
      simp only [bind_ok, pure_ok] at h3
      obtain ⟨m, f1, hh, f2, l, f3, rfl⟩ := h3
      simp only [R] at hx
      obtain ⟨hb0, b, o, cap, rfl, hc, hz1, hr, hperm⟩ := hx
      obtain ⟨rfl, hmle⟩ := upto_ok f1
      have f1' : hiOf (some (m : Int)) cap cap = .ok m := by
        exact upto_mk (by omega)
      have hb := run_bounds (P := P) (w := w) (isSlice := true) (len := es.length) (cap := cap) (mx := some (m : Int)) (dflt := m) ol oh om f1' f2 (by simp) f3 hmx'
      have hrun := run_slice (und_slice hi' hu) (some ⟨b, o, none⟩) es.length cap xl xh xm hb (hj.run_size w)
      have hhe := hiOf_le f2 (Nat.le_refl _)
      have hl0 := loOf_le f3
      rw [← hsz] at hrun
      refine Gives.of h hrun ?_
      refine slice_sl hb0 hz1 hr hl0 (by omega) hhe ?_
      cases hq : m.beq hh with
      | true =>
        have hq := Nat.eq_of_beq_eq_true hq
        exact ⟨fun _ => by show m - l = hh - l; omega, fun _ => by show m - l = hh - l; omega⟩
      | false => exact ⟨fun _ => trivial, fun _ => trivial⟩
  · cases h2

end
end Go.VM
