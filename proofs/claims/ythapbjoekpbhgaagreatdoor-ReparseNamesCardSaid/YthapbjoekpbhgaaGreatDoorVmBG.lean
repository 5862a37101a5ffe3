/-
  A part of the proof.
-/
import Derived.Test.YthapbjoekpbhgaaGreatDoorVmBE
import Derived.Test.YthapbjoekpbhgaaGreatDoorVmBA
import Derived.Lib.TrimUEq
import Derived.Lib.AtoiAll
set_option linter.unusedSimpArgs false
/- UTF-8 by its bytes: how many bytes a character has; what is valid; how many characters. -/
namespace Go.VM
open Go.Lib
/-- How many bytes the character has that begins with these; 0: there is none. -/
def szN (n b0 b1 b2 b3 : Nat) : Nat :=
  if b0 < 128 then 1
  else if 194 ≤ b0 ∧ b0 ≤ 223 then (if n < 2 ∨ b1 < 128 ∨ 191 < b1 then 0 else 2)
  else if 224 ≤ b0 ∧ b0 ≤ 239 then (if n < 3 ∨ b1 < 128 ∨ 191 < b1 ∨ b2 < 128 ∨ 191 < b2 ∨ (b0 = 224 ∧ b1 < 160) ∨ (b0 = 237 ∧ 159 < b1) then 0 else 3)
  else if 240 ≤ b0 ∧ b0 ≤ 244 then (if n < 4 ∨ b1 < 128 ∨ 191 < b1 ∨ b2 < 128 ∨ 191 < b2 ∨ b3 < 128 ∨ 191 < b3 ∨ (b0 = 240 ∧ b1 < 144) ∨ (b0 = 244 ∧ 143 < b1) then 0 else 4)
  else 0
def szL (l : List UInt8) : Nat := szN l.length (l.getD 0 0).toNat (l.getD 1 0).toNat (l.getD 2 0).toNat (l.getD 3 0).toNat
end Go.VM
/- UTF-8: how many characters, by the library's count. -/
namespace Go.VM
open Go.Lib
section
variable {β : Type} {O : Orc}
end
end Go.VM
/- Small facts that walks of shallow forms want; slices that own their ends, side by side; bytes of a text. -/
namespace Go.VM
open Go
@[simp] theorem oneOf_one (v : AV) : oneOf [v] = v := id rfl
@[simp] theorem notNil_ip (cs : List AV) : notNil (.ip cs) = true := id rfl
@[simp] theorem notNil_mp (i o : Nat) : notNil (.mp i o) = true := id rfl
@[simp] theorem drop1 (a : AV) (l : List AV) : (a :: l).drop 1 = l := id rfl
@[simp] theorem drop2 (a b : AV) (l : List AV) : (a :: b :: l).drop 2 = l := id rfl
@[simp] theorem drop3 (a b c : AV) (l : List AV) : (a :: b :: c :: l).drop 3 = l := id rfl
@[simp] theorem drop4 (a b c d : AV) (l : List AV) : (a :: b :: c :: d :: l).drop 4 = l := id rfl
@[simp] theorem drop5 (a b c d e : AV) (l : List AV) : (a :: b :: c :: d :: e :: l).drop 5 = l := id rfl
@[simp] theorem takeO1 (a : AV) (l : List AV) : takeO 1 true (a :: l) = some (.agg [a]) := id rfl
@[simp] theorem takeO2 (a b : AV) (l : List AV) : takeO 2 true (a :: b :: l) = some (.agg [a, b]) := id rfl
@[simp] theorem takeO3 (a b c : AV) (l : List AV) : takeO 3 true (a :: b :: c :: l) = some (.agg [a, b, c]) := id rfl
@[simp] theorem takeO4 (a b c d : AV) (l : List AV) : takeO 4 true (a :: b :: c :: d :: l) = some (.agg [a, b, c, d]) := id rfl
@[simp] theorem cells_agg (cs : List AV) : AV.cells (.agg cs) = cs := id rfl
@[simp] theorem cells_str (s : List UInt8) : AV.cells (.str s) = [.str s] := id rfl
@[simp] theorem cells_int (k : IntKind) (n : Int) : AV.cells (.int k n) = [.int k n] := id rfl
@[simp] theorem cells_fn (f : Fn) (a b : List AV) : AV.cells (.fn f a b) = [.fn f a b] := id rfl
@[simp] theorem apart_made1 (i : Nat) (o : VM.Obj) : apart q0 ⟨[], .made i o⟩ = true := id rfl
@[simp] theorem apart_made2 (i : Nat) (o : VM.Obj) : apart ⟨[], .kept⟩ ⟨[], .made i o⟩ = true := id rfl
@[simp] theorem apart_wrote1 (i : Nat) (o : VM.Obj) : apart ⟨[], .kept⟩ ⟨[i], .wrote i o⟩ = true := id rfl
theorem wrapN {n : Nat} (h : n ≤ 9223372036854775807) : IntKind.wrap .i64 (n : Int) = (n : Int) := wrap_i64 (by omega) (by omega)
theorem wrapA {n m : Nat} (h : n + m ≤ 9223372036854775807) : IntKind.wrap .i64 ((n : Int) + (m : Int)) = ((n + m : Nat) : Int) := by rw [← Int.natCast_add]; exact wrapN h
theorem wrapA1 {n : Nat} (h : n + 1 ≤ 9223372036854775807) : IntKind.wrap .i64 ((n : Int) + 1) = ((n + 1 : Nat) : Int) := wrapA (m := 1) h
theorem ble_of {a b : Nat} (h : a ≤ b) : Nat.ble a b = true := Nat.ble_eq_true_of_le h
/-! Slices that own their ends. -/
theorem own_keep {st st' : St} {z : Nat} {e : TypeId} {v : AV} {es : List AV} {but : Nat → Prop} (h : Own st z e v es) (k : Keeps st st' but) (hb : ∀ j, ownerOf v j → ¬ but j) : Own st' z e v es := by
  refine ⟨by rw [k.ro]; exact Nat.le_trans h.1 k.h, h.2.1, ?_⟩
  rcases h.2.2 with h | h | ⟨j, hv, hg, hr⟩
  · exact .inl h
  · exact .inr (.inl h)
  · exact .inr (.inr ⟨j, hv, k.old _ _ (hb j ⟨_, _, hv⟩) hg, by rw [k.ro]; exact hr⟩)
theorem room_of {n z b : Nat} (hn : n ≤ 1000000000) (hb : b ≤ 1000) (hz : 1 ≤ z) : roomOk n ⟨.other, z, b, [], false, false⟩ = true := by
  have : n * b ≤ 1000000000 * 1000 := Nat.mul_le_mul hn hb
  simp only [roomOk, ble_of (show n * b ≤ 70368744177664 by omega), ble_of (show n ≤ 70368744177664 by omega), ble_of hz]; rfl
end Go.VM
/- Appends of many elements; tuples of what freezing leaves; arrays that may be written. -/
namespace Go.VM
open Go
theorem fitTs_of {agg : Bool} {β : Type} : ∀ {l : List AV} (_ : ∀ v ∈ l, ∀ (K : AV → Option β), fitT agg v K = K v) (K : List AV → Option β), fitTs agg l K = K l
  | [], _, _ => rfl
  | v :: l, h, K => by
    show fitT agg v (fun v' => fitTs agg l fun l' => K (v' :: l')) = _
    rw [h v (by simp), fitTs_of fun u hu => h u (List.mem_cons_of_mem _ hu)]
theorem sizesOk_of {z : Nat} {l : List AV} (h : ∀ v ∈ l, v.cells.length = z) : sizesOk z l = true := by
  refine List.all_eq_true.2 fun v hv => ?_
  rw [h v hv]; exact Nat.beq_refl z
/-! Arrays that may be written: a slice over all of an object's cells. -/
/-- Elements that are written cell by cell. -/
structure Els (z : Nat) (agg : Bool) (es : List AV) : Prop where
  one : ∀ v ∈ es, ones v.cells = true
  size : ∀ v ∈ es, v.cells.length = z
  fit : ∀ v ∈ es, ∀ c ∈ v.cells, Fz 1 c
  fits : ∀ v ∈ es, VM.fit v = .ok v
  shape : ∀ v ∈ es, agg = true → ∃ cs, v = .agg cs
  notagg : ∀ v ∈ es, agg = false → VM.one v = true
theorem Els.set {z : Nat} {agg : Bool} {es : List AV} (he : Els z agg es) {k : Nat} {w : AV} (hw : Els z agg [w]) : Els z agg (es.set k w) := by
  have key : ∀ v ∈ es.set k w, v ∈ es ∨ v = w := fun v hv => List.mem_or_eq_of_mem_set hv
  have hm : w ∈ [w] := by simp
  exact ⟨fun v hv => (key v hv).elim (he.one v) (fun e => e ▸ hw.one w hm), fun v hv => (key v hv).elim (he.size v) (fun e => e ▸ hw.size w hm),
    fun v hv => (key v hv).elim (he.fit v) (fun e => e ▸ hw.fit w hm), fun v hv => (key v hv).elim (he.fits v) (fun e => e ▸ hw.fits w hm),
    fun v hv => (key v hv).elim (he.shape v) (fun e => e ▸ hw.shape w hm), fun v hv => (key v hv).elim (he.notagg v) (fun e => e ▸ hw.notagg w hm)⟩
/-- A variable that is there, written whole. -/
theorem var_put {O : Orc} {st : St} {id : Nat} {t : TypeId} {z : Nat} {old cs : List AV} (v : AV) (hg : st.get id = .ok (.cells t old)) (hl : old.length = z) (hc : cs.length = z) (hro : st.ro ≤ id) :
    ∃ st', st'.get id = .ok (.cells t cs) ∧ Keeps st st' (· = id) ∧ st'.h = st.h ∧ ∃ fx, ∀ {β : Type} (K : Kv β), storeS O z (.mp id 0) v cs st K = K undef st' fx := by
  refine ⟨st.put id (.cells t cs), St.get_put_same (St.get_ok.1 hg).1, Keeps.put rfl, rfl, ⟨[id], .wrote id (.cells t (splice old 0 cs))⟩, fun K => ?_⟩
  rw [storeS_at hg hc (by omega) hro, splice_all (by omega)]
/-! What reads the same before and after a call. -/
def Rf (d : Nat) (v : AV) : Prop := ∀ f, d ≤ f → sameAV f v v = true
theorem Rf.mono {d e : Nat} {v : AV} (h : Rf d v) (hd : d ≤ e) : Rf e v := fun f hf => h f (Nat.le_trans hd hf)
theorem Keeps.of_ne {st st' : St} {p : Nat} (k : Keeps st st' (· = p)) {j : Nat} {o : Obj} (hj : j ≠ p) (h : st.get j = .ok o) : st'.get j = .ok o := k.old j o hj h
/-- What is new in between may be written. -/
theorem Keeps.fresh {a b c : St} {p : Nat → Prop} {i : Nat} (h : Keeps a b p) (k : Keeps b c (· = i)) (hi : a.h ≤ i) : Keeps a c p :=
  ⟨k.ro.trans h.ro, Nat.le_trans h.h k.h, fun j o hj hg => k.old j o (fun e => by
    have := (St.get_ok.1 hg).1
    omega) (h.old j o hj hg)⟩
end Go.VM
/- What is left to do ends well: steps from the front. -/
namespace Go.VM
open Go
/-- It comes to something of which this is true. -/
def Goes {β : Type} (e : Option β) (Q : β → Prop) : Prop := ∃ b, e = some b ∧ Q b
section
variable {β : Type} {Q : β → Prop} {E : Env} {st : St}
theorem Goes.step {e e' : Option β} (h : e = e') (g : Goes e' Q) : Goes e Q := h ▸ g
theorem Goes.some {b : β} (h : Q b) : Goes (.some b) Q := ⟨b, rfl, h⟩
theorem Goes.mono {e : Option β} {Q' : β → Prop} (h : Goes e Q) (k : ∀ b, Q b → Q' b) : Goes e Q' := by
  obtain ⟨b, e, h⟩ := h
  exact ⟨b, e, k b h⟩
theorem Goes.bind {α : Type} {e : Option α} {R : α → Prop} {K : α → Option β} (h : Goes e R) (g : ∀ a, R a → Goes (K a) Q) : Goes (bindO e K) Q := by
  obtain ⟨a, e, h⟩ := h
  rw [e]
  exact g a h
theorem Goes.wide {F : FuncId} {args : List AV} {Q : AV × St → Prop} (h : Goes (wideS E F args st) Q) : Goes ((orc E).wide F args st) Q := by
  obtain ⟨b, e, h⟩ := h
  exact ⟨b, wide_of e, h⟩
theorem Goes.bare {F : FuncId} {args : List AV} {Q : AV → Prop} (hm : (E.memo F, (E.rule F).isSome) = ([], false)) (h : Goes (bareS E F args) Q) : Goes ((orc E).bare F args) Q := by
  obtain ⟨b, e, h⟩ := h
  exact ⟨b, bare_of hm e, h⟩
theorem Goes.one {v : AV} (h : VM.one v = true) {e : Option β} (g : Goes e Q) : Goes (asOne v e) Q := Goes.step (asOne_of h e) g
/-- A loop that ends by what gets less. -/
theorem Goes.loop {σ : Type} {F : σ → Option (Sum σ β)} {I : Nat → σ → Prop} (h : ∀ n s, I n s → Goes (F s) fun r => match r with
    | .inl s' => ∃ m, m < n ∧ I m s'
    | .inr b => Q b) : ∀ n s, I n s → Goes (loopO F s) Q := by
  intro n
  induction n using Nat.strongRecOn with
  | _ n ih =>
    intro s hs
    obtain ⟨r, e, hr⟩ := h n s hs
    cases r with
    | inl s' =>
      obtain ⟨m, hm, hi⟩ := hr
      rw [loopO_inl e]
      exact ih m hm s' hi
    | inr b => exact ⟨b, loopO_inr e, hr⟩
/-! Variables of a function. -/
abbrev Vrs := List (Nat × TypeId × List AV)
structure Vw (st : St) (l : Vrs) : Prop where
  v : ∀ q ∈ l, st.get q.1 = .ok (.cells q.2.1 q.2.2) ∧ st.ro ≤ q.1
  nd : (l.map (·.1)).Nodup
  ro : st.ro ≤ st.h
variable {l l1 l2 : Vrs}
theorem Vw.start (h : st.ro ≤ st.h) : Vw st [] := ⟨(fun _ h => by cases h), List.nodup_nil, h⟩
theorem Vw.get (w : Vw st l) {a : Nat} {t : TypeId} {cs : List AV} (h : (a, t, cs) ∈ l) : st.get a = .ok (.cells t cs) := (w.v _ h).1
theorem Vw.sub {l' : Vrs} (w : Vw st l) (h : List.Sublist l' l) : Vw st l' := ⟨fun q hq => w.v q (h.subset hq), (h.map _).nodup w.nd, w.ro⟩
theorem Vw.alloc (w : Vw st l) (t : TypeId) (cs : List AV) : Vw (st.add (.cells t cs)) ((st.h, t, cs) :: l) := by
  refine ⟨fun q hq => ?_, ?_, Nat.le_succ_of_le w.ro⟩
  · rcases List.mem_cons.1 hq with rfl | hq
    · exact ⟨St.get_add_new, w.ro⟩
    · exact ⟨St.get_add_old (w.v q hq).1, (w.v q hq).2⟩
  · rw [List.map_cons, List.nodup_cons]
    refine ⟨fun hm => ?_, w.nd⟩
    obtain ⟨q, hq, e⟩ := List.mem_map.1 hm
    have h1 := (St.get_ok.1 (w.v q hq).1).1
    simp only at e
    omega
end
end Go.VM
/- Tokens of a text, as plain functions. -/
namespace Go.Lex
open Go.VM
def wh (p : UInt8 → Bool) (s : List UInt8) : Nat := (s.takeWhile p).length
def isBlank (b : UInt8) : Bool := b == 32 || b == 9 || b == 10 || b == 13
def isLow (b : UInt8) : Bool := (decide (97 ≤ b.toNat) && decide (b.toNat ≤ 122)) || b == 95
def isDig (b : UInt8) : Bool := decide (48 ≤ b.toNat) && decide (b.toNat ≤ 57)
def isBeh (b : UInt8) : Bool := isLow b || isDig b || (decide (65 ≤ b.toNat) && decide (b.toNat ≤ 90)) || b == 39
/-- Where a remark ends, so many being open. -/
def rem : List UInt8 → Nat → Option Nat
  | [], _ => none
  | [_], _ => none
  | a :: b :: l, d =>
    if a = 40 ∧ b = 42 then (rem l (d + 1)).map (· + 2)
    else if a = 42 ∧ b = 41 then (if d = 1 then some 2 else (rem l (d - 1)).map (· + 2))
    else (rem (b :: l) d).map (· + 1)
def words : List (List UInt8) := [[108, 101, 116], [114, 101, 99], [105, 110], [102, 117, 110], [105, 102], [116, 104, 101, 110], [101, 108, 115, 101], [109, 97, 116, 99, 104], [119, 105, 116, 104], [116, 114, 117, 101], [102, 97, 108, 115, 101], [109, 111, 100]]
def nameK (w : List UInt8) : Nat := if w = [95] then 8 else if words.contains w then 3 else 4
def stepV (a : Nat) (c : UInt8) : Nat := a * 10 + (c.toNat - 48)
def numV (acc : Nat) (l : List UInt8) : Nat := l.foldl stepV acc
def isSgn (c : UInt8) : Bool := c == 43 || c == 45
def sgn : List UInt8 → Nat
  | c :: _ => if isSgn c then 1 else 0
  | [] => 0
/-- An exponent behind a Float's digits: how many bytes, and its value. -/
def expo (s : List UInt8) : Nat × Int :=
  match s with
  | [] => (0, 0)
  | e :: l =>
    if e = 101 ∨ e = 69 then
      let d := wh isDig (l.drop (sgn l))
      if d = 0 then (0, 0)
      else
        let x : Int := ((min (numV 0 ((l.drop (sgn l)).take d)) 1000000 : Nat) : Int)
        (1 + sgn l + d, if l.head? = some 45 then -x else x)
    else (0, 0)
/-- A number: its kind and how many bytes. -/
def number (s : List UInt8) : Nat × Nat :=
  let n := wh isDig s
  if (s.drop n).head? = some 46 then
    let k := wh isDig (s.drop (n + 1))
    let x := expo (s.drop (n + 1 + k))
    (if n + k > 15 ∨ x.2 - (k : Int) < -22 ∨ x.2 - (k : Int) > 22 then 9 else 6, n + 1 + k + x.1)
  else (5, n)
/-- What is left of a Bad text: up to its quote, or its line's end. -/
def badT : List UInt8 → Nat
  | [] => 0
  | c :: l => if c = 10 then 0 else if c = 34 then 1 else badT l + 1
def isEsc (c : UInt8) : Bool := c == 110 || c == 116 || c == 92 || c == 34
/-- A text behind its quote: its kind and how many bytes. -/
def txt : List UInt8 → Nat × Nat
  | [] => (9, 0)
  | [c] => if c = 10 then (9, 0) else if c = 34 then (7, 1) else (9, 1)
  | c :: d :: l =>
    if c = 10 then (9, 0) else if c = 34 then (7, 1)
    else if c = 92 then (if isEsc d then ((txt l).1, (txt l).2 + 2) else (9, badT (d :: l) + 1))
    else ((txt (d :: l)).1, (txt (d :: l)).2 + 1)
def twos : List (List UInt8) := [[45, 62], [58, 58], [60, 62], [60, 61], [62, 61], [43, 46], [45, 46], [42, 46], [47, 46], [38, 38], [124, 124]]
def ones1 : List UInt8 := [40, 41, 91, 93, 44, 59, 124, 61, 60, 62, 43, 45, 42, 47, 94, 64]
def isOne (c : UInt8) : Bool := ones1.contains c
/-- The token that a text begins with: its kind, and how many bytes. -/
def cut (s : List UInt8) : Nat × Nat :=
  match s with
  | [] => (9, 0)
  | c :: l =>
    if isBlank c then (1, wh isBlank s)
    else if s.take 2 = [40, 42] then (match rem (s.drop 2) 1 with | some n => (2, n + 2) | none => (9, s.length))
    else if isLow c then (nameK (s.takeWhile isBeh), wh isBeh s)
    else if isDig c then number s
    else if c = 34 then ((txt l).1, (txt l).2 + 1)
    else if twos.contains (s.take 2) then (8, 2)
    else if isOne c then (8, 1)
    else (9, if szL s = 0 then 1 else szL s)
/-- A text's tokens. -/
def toks : Nat → List UInt8 → List (Nat × List UInt8)
  | 0, _ => []
  | n + 1, s => match s with
    | [] => []
    | _ :: _ => ((cut s).1, s.take (cut s).2) :: toks n (s.drop (cut s).2)
def tokens (s : List UInt8) : List (Nat × List UInt8) := toks s.length s
end Go.Lex
/- Trees of tokens, as plain functions. -/
namespace Go.Parse
open Go.VM Go.Lex
abbrev Tok := Nat × List UInt8
inductive T where
  | mk (k tk : Nat) (tx : List UInt8) (kids : List T)
  deriving Inhabited
def T.kids : T → List T | .mk _ _ _ l => l
def T.kind : T → Nat | .mk k _ _ _ => k
def trivB (t : Tok) : Bool := t.1 == 1 || t.1 == 2
def nx (r : List Tok) : Tok :=
  match r.dropWhile trivB with
  | [] => (0, [])
  | t :: _ => t
def leaf (t : Tok) (ks : List T) : T := .mk 1 t.1 t.2 ks
def leaf0 (t : Tok) : T := leaf t []
/-- The leaf of the token that is next, and what stands behind it. -/
def takeT (r : List Tok) : T := leaf (nx r) ((r.takeWhile trivB).map leaf0)
def takeR (r : List Tok) : List Tok := (r.dropWhile trivB).drop 1
def isS (s : List UInt8) (r : List Tok) : Bool := ((nx r).1 == 3 || (nx r).1 == 8) && (nx r).2 == s
def isAny (l : List (List UInt8)) (r : List Tok) : Bool := ((nx r).1 == 3 || (nx r).1 == 8) && l.any fun s => s == (nx r).2
def missing (s : List UInt8) : T := .mk 2 0 s []
def needT (s : List UInt8) (r : List Tok) : T := if isS s r then takeT r else missing s
def needR (s : List UInt8) (r : List Tok) : List Tok := if isS s r then takeR r else r
abbrev node (k : Nat) (l : List T) : T := .mk k 0 [] l
def sLet : List UInt8 := [108, 101, 116]
def sRec : List UInt8 := [114, 101, 99]
def sIn : List UInt8 := [105, 110]
def sFun : List UInt8 := [102, 117, 110]
def sIf : List UInt8 := [105, 102]
def sThen : List UInt8 := [116, 104, 101, 110]
def sElse : List UInt8 := [101, 108, 115, 101]
def sMatch : List UInt8 := [109, 97, 116, 99, 104]
def sWith : List UInt8 := [119, 105, 116, 104]
def sTrue : List UInt8 := [116, 114, 117, 101]
def sFalse : List UInt8 := [102, 97, 108, 115, 101]
def sExpr : List UInt8 := [101, 120, 112, 114]
def sPattern : List UInt8 := [112, 97, 116, 116, 101, 114, 110]
def sEq : List UInt8 := [61]
def sArrow : List UInt8 := [45, 62]
def sBar : List UInt8 := [124]
def sCons : List UInt8 := [58, 58]
def sOpen : List UInt8 := [40]
def sClose : List UInt8 := [41]
def sOpenL : List UInt8 := [91]
def sCloseL : List UInt8 := [93]
def sComma : List UInt8 := [44]
def sSemi : List UInt8 := [59]
def sAny : List UInt8 := [95]
def opsOf : Nat → List (List UInt8)
  | 0 => [[124, 124]]
  | 1 => [[38, 38]]
  | 2 => [[61], [60, 62], [60], [60, 61], [62], [62, 61]]
  | 3 => [[64], [94]]
  | 4 => [[58, 58]]
  | 5 => [[43], [45], [43, 46], [45, 46]]
  | _ => [[42], [47], [42, 46], [47, 46], [109, 111, 100]]
def leftOf (k : Nat) : Bool := k == 2 || k == 5 || k == 6
/-- Can an atom begin? -/
def begins (pat : Bool) (r : List Tok) : Bool :=
  (nx r).1 == 4 || (nx r).1 == 5 || (nx r).1 == 7 || (nx r).1 == 9 || (nx r).1 == (if pat then 5 else 6) || isAny [sTrue, sFalse, sOpen, sOpenL, if pat then sAny else sOpen] r
inductive Job where
  | expr
  | whole
  | level (k : Nat)
  | ops (k : Nat) (acc : T)
  | neg
  | args (acc : T)
  | atom (pat : Bool)
  | closed (list pat : Bool)
  | items (list pat : Bool)
  | pattern
  | binding
  | params
  | arm
  | arms
/-- What stands in the place of what would be too deep. -/
def deepT (what : List UInt8) (r : List Tok) : T := if (nx r).1 = 0 then missing what else node 3 [takeT r]
def deepR (r : List Tok) : List Tok := if (nx r).1 = 0 then r else takeR r
def kindOf : Bool → Bool → Nat
  | false, false => 14
  | true, false => 15
  | false, true => 17
  | true, true => 18
def betw (list : Bool) : List UInt8 := if list then sSemi else sComma
def endOf (list : Bool) : List UInt8 := if list then sCloseL else sClose
abbrev R := Option (List T × List Tok)
def P : Nat → Job → Nat → List Tok → R
  | 0, _, _, _ => none
  | n + 1, .expr, d, r => if d = 64 then some ([deepT sExpr r], deepR r) else P n .whole (d + 1) r
  | n + 1, .whole, d, r =>
    if isS sLet r then do
      let (bs, r2) ← P n .binding d (takeR r)
      let (es, r3) ← P n .expr d (needR sIn r2)
      some ([node 6 (takeT r :: bs ++ [needT sIn r2] ++ es)], r3)
    else if isS sFun r then do
      let (a, r1) ← P n (.atom true) d (takeR r)
      let (ps, r2) ← P n .params d r1
      let (es, r3) ← P n .expr d (needR sArrow r2)
      some ([node 7 (takeT r :: a ++ ps ++ [needT sArrow r2] ++ es)], r3)
    else if isS sIf r then do
      let (a, r1) ← P n .expr d (takeR r)
      let (b, r2) ← P n .expr d (needR sThen r1)
      let (c, r3) ← P n .expr d (needR sElse r2)
      some ([node 8 (takeT r :: a ++ [needT sThen r1] ++ b ++ [needT sElse r2] ++ c)], r3)
    else if isS sMatch r then do
      let (a, r1) ← P n .expr d (takeR r)
      let r2 := needR sWith r1
      let bar := if isS sBar r2 then [takeT r2] else []
      let (b, r3) ← P n .arm d (if isS sBar r2 then takeR r2 else r2)
      let (cs, r4) ← P n .arms d r3
      some ([node 9 (takeT r :: a ++ [needT sWith r1] ++ bar ++ b ++ cs)], r4)
    else P n (.level 0) d r
  | n + 1, .level k, d, r =>
    if k = 7 then P n .neg d r
    else do
      let (a, r1) ← P n (.level (k + 1)) d r
      match a with
      | [t] => P n (.ops k t) d r1
      | _ => none
  | n + 1, .ops k acc, d, r =>
    if isAny (opsOf k) r then do
      let (b, r1) ← P n (.level (if leftOf k then k + 1 else k)) d (takeR r)
      P n (.ops k (node 11 (acc :: takeT r :: b))) d r1
    else some ([acc], r)
  | n + 1, .neg, d, r =>
    if isAny [[45], [45, 46]] r then
      if d = 64 then some ([node 12 [takeT r, deepT sExpr (takeR r)]], deepR (takeR r))
      else do
        let (a, r1) ← P n .neg (d + 1) (takeR r)
        some ([node 12 (takeT r :: a)], r1)
    else do
      let (a, r1) ← P n (.atom false) d r
      match a with
      | [t] => P n (.args t) d r1
      | _ => none
  | n + 1, .args acc, d, r =>
    if begins false r then do
      let (b, r1) ← P n (.atom false) d r
      P n (.args (node 13 (acc :: b))) d r1
    else some ([acc], r)
  | n + 1, .atom pat, d, r =>
    if begins pat r then
      if (nx r).1 = 9 then some ([node 3 [takeT r]], takeR r)
      else if isS sOpen r then P n (.closed false pat) d r
      else if isS sOpenL r then P n (.closed true pat) d r
      else some ([takeT r], takeR r)
    else some ([missing (if pat then sPattern else sExpr)], r)
  | n + 1, .closed list pat, d, r =>
    let r1 := takeR r
    if isS (endOf list) r1 then some ([node (kindOf list pat) [takeT r, takeT r1]], takeR r1)
    else do
      let (a, r2) ← P n (if pat then .pattern else .expr) d r1
      let (bs, r3) ← P n (.items list pat) d r2
      some ([node (kindOf list pat) (takeT r :: a ++ bs ++ [needT (endOf list) r3])], needR (endOf list) r3)
  | n + 1, .items list pat, d, r =>
    if isS (betw list) r then do
      let (a, r1) ← P n (if pat then .pattern else .expr) d (takeR r)
      let (bs, r2) ← P n (.items list pat) d r1
      some (takeT r :: a ++ bs, r2)
    else some ([], r)
  | n + 1, .pattern, d, r =>
    if d = 64 then some ([deepT sPattern r], deepR r)
    else do
      let (a, r1) ← P n (.atom true) (d + 1) r
      if isS sCons r1 then do
        let (b, r2) ← P n .pattern (d + 1) (takeR r1)
        some ([node 16 (a ++ takeT r1 :: b)], r2)
      else some (a, r1)
  | n + 1, .binding, d, r => do
    let rc := if isS sRec r then [takeT r] else []
    let r0 := if isS sRec r then takeR r else r
    let (xs, r1) ← if (nx r0).1 = 4 then (do
        let (ps, r1) ← P n .params d (takeR r0)
        some (takeT r0 :: ps, r1))
      else P n (.atom true) d r0
    let (es, r2) ← P n .expr d (needR sEq r1)
    some (rc ++ xs ++ [needT sEq r1] ++ es, r2)
  | n + 1, .params, d, r =>
    if begins true r then do
      let (a, r1) ← P n (.atom true) d r
      let (bs, r2) ← P n .params d r1
      some (a ++ bs, r2)
    else some ([], r)
  | n + 1, .arm, d, r => do
    let (a, r1) ← P n .pattern d r
    let (es, r2) ← P n .expr d (needR sArrow r1)
    some ([node 10 (a ++ [needT sArrow r1] ++ es)], r2)
  | n + 1, .arms, d, r =>
    if isS sBar r then do
      let (a, r1) ← P n .arm d (takeR r)
      let (bs, r2) ← P n .arms d r1
      some (takeT r :: a ++ bs, r2)
    else some ([], r)
/-- Tokens up to a let. -/
def skip : Nat → List Tok → List T × List Tok
  | 0, r => ([], r)
  | n + 1, r => if (nx r).1 ≠ 0 ∧ isS sLet r = false then ((takeT r :: (skip n (takeR r)).1), (skip n (takeR r)).2) else ([], r)
def fuel (r : List Tok) : Nat := 30 * (r.length + 2)
end Go.Parse
/- The parser ends: enough fuel, and how much is taken. -/
namespace Go.Parse
open Go.VM Go.Lex
def single : Job → Bool
  | .items _ _ => false
  | .binding => false
  | .params => false
  | .arms => false
  | _ => true
/-- A job takes a token first. -/
def firm : Job → List Tok → Prop
  | .atom pat, r => begins pat r = true
  | .closed _ _, r => (nx r).1 ≠ 0
  | _, _ => False
/-- What a job may be begun at. -/
def at' : Job → List Tok → Prop
  | .closed _ _, r => (nx r).1 ≠ 0
  | _, _ => True
structure Fine (job : Job) (r : List Tok) (x : R) : Prop where
  some : ∃ l r', x = some (l, r') ∧ r'.length ≤ r.length ∧ (single job = true → ∃ t, l = [t]) ∧ (firm job r → r'.length < r.length)
end Go.Parse
/- Tokens: a token by itself, and a token before a line's end. -/
namespace Go.Lex
open Go.VM
end Go.Lex
/- Tokens: a token by itself is that token; a line's end behind one. -/
namespace Go.Lex
open Go.VM
end Go.Lex
/- Tokens: cutting a token by itself, and before a line's end; what stands behind a token. -/
namespace Go.Lex
open Go.VM
/-- What stands behind so many tokens. -/
def behind (s : List UInt8) : Nat → List UInt8
  | 0 => s
  | n + 1 => (behind s n).drop (cut (behind s n)).2
end Go.Lex
/- Tokens: a token looks at most three bytes further. -/
namespace Go.Lex
open Go.VM
end Go.Lex
/- Tokens again, behind an edit, as plain functions. -/
namespace Go.Lex
open Go.VM
/-- How many tokens end three bytes ahead of so many. -/
def keeps : Nat → List (Nat × List UInt8) → Nat
  | _, [] => 0
  | r, p :: l => if p.2.length + 2 < r then keeps (r - p.2.length) l + 1 else 0
/-- How many things at the beginnings of two rows are the same. -/
def alike : List (Nat × List UInt8) → List (Nat × List UInt8) → Nat
  | a :: l, b :: m => if a = b then alike l m + 1 else 0
  | _, _ => 0
end Go.Lex
/- Nothing is lost; what is in order has nothing missing. -/
namespace Go.Parse
open Go.VM Go.Lex
theorem bind_some {α β : Type} {x : Option α} {f : α → Option β} {b : β} (h : (x >>= f) = some b) : ∃ a, x = some a ∧ f a = some b := by
  cases x with
  | none => cases h
  | some a => exact ⟨a, rfl, h⟩
end Go.Parse
/- Trees of tokens: their text, their tokens, their leaves; plain functions. -/
namespace Go.Green
open Go.VM Go.Lex Go.Parse
mutual
/-- The text of a tree. -/
def textG : T → List UInt8
  | .mk k _ tx l => if k = 2 then [] else textGL l ++ (if k = 1 then tx else [])
def textGL : List T → List UInt8
  | [] => []
  | t :: l => textG t ++ textGL l
end
mutual
/-- The tokens of a tree. -/
def toksG : T → List Tok
  | .mk k tk tx l => if k = 2 then [] else toksGL l ++ (if k = 1 ∧ ¬ (tk = 0 ∧ tx = []) then [(tk, tx)] else [])
def toksGL : List T → List Tok
  | [] => []
  | t :: l => toksG t ++ toksGL l
end
def bytesT (l : List Tok) : List UInt8 := (l.map (·.2)).flatten
theorem bytesT_app (l m : List Tok) : bytesT (l ++ m) = bytesT l ++ bytesT m := by simp [bytesT]
mutual
theorem text_toks : ∀ t : T, textG t = bytesT (toksG t)
  | .mk k tk tx l => by
    simp only [textG, toksG]
    by_cases h2 : k = 2
    · rw [if_pos h2, if_pos h2]; rfl
    · rw [if_neg h2, if_neg h2, bytesT_app, text_toksL l]
      congr 1
      by_cases h1 : k = 1
      · by_cases h : tk = 0 ∧ tx = []
        · rw [if_pos h1, if_neg (by simp [h]), h.2]; rfl
        · rw [if_pos h1, if_pos ⟨h1, h⟩]; simp [bytesT]
      · rw [if_neg h1, if_neg (fun h => h1 h.1)]; rfl
theorem text_toksL : ∀ l : List T, textGL l = bytesT (toksGL l)
  | [] => rfl
  | t :: l => by simp only [textGL, toksGL, bytesT_app, text_toks t, text_toksL l]
end
mutual
/-- A tree's leaves, but those of their Kids, each with its path. -/
def lv (path : List Nat) : T → List (List Nat × T)
  | .mk k tk tx l => if k = 1 then [(path, .mk k tk tx l)] else if k = 2 then [] else lvL path 0 l
def lvL (path : List Nat) (i : Nat) : List T → List (List Nat × T)
  | [] => []
  | t :: l => lv (path ++ [i]) t ++ lvL path (i + 1) l
end
def toksV (l : List (List Nat × T)) : List Tok := (l.map fun q => toksG q.2).flatten
theorem toksV_app (l m : List (List Nat × T)) : toksV (l ++ m) = toksV l ++ toksV m := by simp [toksV]
mutual
theorem toks_lv : ∀ (t : T) (p : List Nat), toksV (lv p t) = toksG t
  | .mk k tk tx l, p => by
    simp only [lv]
    by_cases h1 : k = 1
    · rw [if_pos h1]; simp [toksV]
    · by_cases h2 : k = 2
      · rw [if_neg h1, if_pos h2]; simp only [toksG, if_pos h2]; rfl
      · rw [if_neg h1, if_neg h2, toks_lvL l p 0]
        simp only [toksG, if_neg h2, h1, false_and, if_false, List.append_nil]
theorem toks_lvL : ∀ (l : List T) (p : List Nat) (i : Nat), toksV (lvL p i l) = toksGL l
  | [], _, _ => rfl
  | t :: l, p, i => by simp only [lvL, toksGL, toksV_app, toks_lv t, toks_lvL l]
end
mutual
theorem lv_leaf : ∀ (t : T) (p : List Nat), ∀ q ∈ lv p t, q.2.kind = 1
  | .mk k tk tx l, p, q, h => by
    simp only [lv] at h
    by_cases h1 : k = 1
    · rw [if_pos h1] at h; simp at h; rw [h]; exact h1
    · by_cases h2 : k = 2
      · rw [if_neg h1, if_pos h2] at h; cases h
      · rw [if_neg h1, if_neg h2] at h; exact lv_leafL l p 0 q h
theorem lv_leafL : ∀ (l : List T) (p : List Nat) (i : Nat), ∀ q ∈ lvL p i l, q.2.kind = 1
  | [], _, _, q, h => by cases h
  | t :: l, p, i, q, h => by
    simp only [lvL] at h
    rcases List.mem_append.1 h with h | h
    · exact lv_leaf t _ q h
    · exact lv_leafL l p (i + 1) q h
end
mutual
def cntT : T → Nat
  | .mk _ _ _ l => 1 + cntL l
def cntL : List T → Nat
  | [] => 0
  | t :: l => cntT t + cntL l
end
mutual
def lenT : T → Nat
  | .mk _ _ tx l => tx.length + lenL l
def lenL : List T → Nat
  | [] => 0
  | t :: l => lenT t + lenL l
end
mutual
theorem toks_bound : ∀ t : T, (toksG t).length ≤ cntT t ∧ (textG t).length ≤ lenT t
  | .mk k tk tx l => by
    have h := toks_boundL l
    simp only [toksG, textG, cntT, lenT]
    by_cases h2 : k = 2
    · rw [if_pos h2, if_pos h2]; simp
    · rw [if_neg h2, if_neg h2]
      simp only [List.length_append]
      constructor
      · by_cases h1 : k = 1 ∧ ¬ (tk = 0 ∧ tx = [])
        · rw [if_pos h1]; simp only [List.length_cons, List.length_nil]; omega
        · rw [if_neg h1]; simp only [List.length_nil]; omega
      · by_cases h1 : k = 1
        · rw [if_pos h1]; omega
        · rw [if_neg h1]; simp only [List.length_nil]; omega
theorem toks_boundL : ∀ l : List T, (toksGL l).length ≤ cntL l ∧ (textGL l).length ≤ lenL l
  | [] => by simp [toksGL, textGL, cntL, lenL]
  | t :: l => by
    have h1 := toks_bound t
    have h2 := toks_boundL l
    simp only [toksGL, textGL, cntL, lenL, List.length_append]
    omega
end
end Go.Green
/- How deep the parser's trees are; single results. -/
namespace Go.Parse
open Go.VM Go.Lex
mutual
def depT : T → Nat
  | .mk _ _ _ l => depL l + 1
def depL : List T → Nat
  | [] => 0
  | t :: l => max (depT t) (depL l)
end
theorem depL_cons (t : T) (l : List T) : depL (t :: l) = max (depT t) (depL l) := by simp [depL]
end Go.Parse
