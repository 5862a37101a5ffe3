/- The fast machine's operations do what the machine's do. -/
import Derived.Test.YtjagieigmleneajGreatDoorVmKFrm
import Derived.Test.YtjagieigmleneajGreatDoorVmReg2
namespace Go.VM

theorem trO_ok {G : Nat → Option (List AV)} {fr : Fr} {n : Nat} {t : Frm} (h : FR fr n t) {x : Operand} {k : KO} (hk : trO G x = some k) : evalO G fr x = .ok (getO k t) := by
  cases x with
  | tmp i =>
    simp only [trO] at hk
    cases hi : i.blt 1000 with
    | false => rw [hi] at hk; cases hk
    | true =>
      rw [hi] at hk
      have hk : some (KO.t (pl i).g) = some k := hk
      cases hk
      show Except.ok (fr.get i) = .ok (getP (pl i) t)
      rw [h.get i]
      unfold kget
      rw [hi]
  | const v =>
    simp only [trO] at hk
    split at hk
    · rename_i a ha
      cases hk
      exact ha
    · cases hk
  | global g =>
    simp only [trO] at hk
    split at hk
    · rename_i cs hcs
      cases hk
      show (match G g with | some cs => Except.ok (AV.ip cs) | none => .error _) = _
      rw [hcs]; rfl
    · cases hk
  | func g => cases hk; rfl
theorem trOs_ok {G : Nat → Option (List AV)} {fr : Fr} {n : Nat} {t : Frm} (h : FR fr n t) : ∀ {l : List Operand} {k : List KO}, trOs G l = some k → evalL G fr l = .ok (getOs k t)
  | [], k, hk => by cases hk; rfl
  | x :: l, k, hk => by
    simp only [trOs] at hk
    split at hk
    · cases hk
    · rename_i a ha
      split at hk
      · cases hk
      · rename_i b hb
        cases hk
        simp only [evalL, trO_ok h ha, trOs_ok h hb]
        rfl

/- What the eliminators tell. -/
theorem boolK_t {v : AV} {k : Bool → Bool} (h : boolK v k = true) : ∃ b, v = .bool b ∧ k b = true := by
  cases v <;> first | exact ⟨_, rfl, h⟩ | cases h
theorem intK_t {v : AV} {k : IntKind → Int → Bool} (h : intK v k = true) : ∃ a n, v = .int a n ∧ k a n = true := by
  cases v <;> first | exact ⟨_, _, rfl, h⟩ | cases h
theorem natK_t {v : AV} {k : Nat → Bool} (h : natK v k = true) : ∃ a n, v = .int a (.ofNat n) ∧ k n = true := by
  cases v <;> first | cases h | skip
  rename_i a n
  cases n with
  | ofNat m => exact ⟨_, _, rfl, h⟩
  | negSucc m => cases h
theorem strK_t {v : AV} {k : List UInt8 → Bool} (h : strK v k = true) : ∃ s, v = .str s ∧ k s = true := by
  cases v <;> first | exact ⟨_, rfl, h⟩ | cases h
theorem adrK_t {v : AV} {k : List AV → Bool} {k' : Nat → Nat → Bool} (h : adrK v k k' = true) : (∃ c, v = .ip c ∧ k c = true) ∨ ∃ i o, v = .mp i o ∧ k' i o = true := by
  cases v <;> first | exact .inl ⟨_, rfl, h⟩ | exact .inr ⟨_, _, rfl, h⟩ | cases h
theorem slK_t {v : AV} {k : Bool} {k' : Nat → List AV → Bool} {k'' : Nat → Nat → Nat → Nat → Bool} {k3 : Nat → Nat → Nat → Bool} (h : slK v k k' k'' k3 = true) :
    (v = .nils ∧ k = true) ∨ (∃ z e p, v = .sl z e p ∧ k' z e = true) ∨ (∃ i o z n c, v = .ms i o z n c ∧ k'' i o z n = true) ∨ ∃ i z n, v = .gs i z n ∧ k3 i z n = true := by
  cases v <;> first | exact .inl ⟨rfl, h⟩ | exact .inr (.inl ⟨_, _, _, rfl, h⟩) | exact .inr (.inr (.inl ⟨_, _, _, _, _, rfl, h⟩)) | exact .inr (.inr (.inr ⟨_, _, _, rfl, h⟩)) | cases h
theorem gpK_t {v : AV} {k k' : Bool} (h : gpK v k k' = true) : (∃ i n o, v = .gp i n o ∧ k = true) ∨ ((∀ i n o, v ≠ .gp i n o) ∧ k' = true) := by
  cases v <;> first | exact .inl ⟨_, _, _, rfl, h⟩ | exact .inr ⟨fun _ _ _ e => (by cases e), h⟩
theorem aggK_t {v : AV} {k : List AV → Bool} (h : aggK v k = true) : ∃ c, v = .agg c ∧ k c = true := by
  cases v <;> first | exact ⟨_, rfl, h⟩ | cases h
theorem tupK_t {v : AV} {k : List AV → Bool} (h : tupK v k = true) : ∃ c, v = .tup c ∧ k c = true := by
  cases v <;> first | exact ⟨_, rfl, h⟩ | cases h
theorem andK_t {b k : Bool} (h : andK b k = true) : b = true ∧ k = true := by
  cases b
  · cases h
  · exact ⟨rfl, h⟩
theorem tlK_drop {α : Type} : ∀ (n : Nat) (l : List α), tlK (l.drop n) = l.drop (n + 1)
  | 0, [] => rfl
  | 0, _ :: _ => rfl
  | _ + 1, [] => by simp; rfl
  | n + 1, a :: l => by rw [List.drop_succ_cons, List.drop_succ_cons]; exact tlK_drop n l
theorem dropK_eq {α : Type} (l : List α) : ∀ n, dropK l n = l.drop n
  | 0 => rfl
  | n + 1 => by
    show tlK (dropK l n) = _
    rw [dropK_eq l n, tlK_drop]
theorem nthK_t {n : Nat} {l : List AV} {k : AV → Bool} (h : nthK n l k = true) : ∃ v, nthAV l n = .ok v ∧ n < l.length ∧ k v = true := by
  unfold nthK at h
  rw [dropK_eq] at h
  cases hd : l.drop n with
  | nil => rw [hd] at h; cases h
  | cons a m =>
    rw [hd] at h
    have : n < l.length := by
      have e := congrArg List.length hd
      simp only [List.length_drop, List.length_cons] at e
      omega
    refine ⟨a, ?_, this, h⟩
    clear h
    induction n generalizing l with
    | zero => cases l with
      | nil => cases hd
      | cons b l => cases hd; rfl
    | succ n ih => cases l with
      | nil => cases hd
      | cons b l => exact ih (l := l) hd (by simpa using this)
theorem nthB_t {n : Nat} {l : List UInt8} {k : UInt8 → Bool} (h : nthB n l k = true) : ∃ v, l[n]? = some v ∧ n < l.length ∧ k v = true := by
  unfold nthB at h
  rw [dropK_eq] at h
  cases hd : l.drop n with
  | nil => rw [hd] at h; cases h
  | cons a m =>
    rw [hd] at h
    have e := congrArg List.length hd
    simp only [List.length_drop, List.length_cons] at e
    refine ⟨a, ?_, by omega, h⟩
    have := List.getElem?_drop (xs := l) (i := n) (j := 0)
    rw [hd] at this
    simpa using this.symm
theorem shortK_f : ∀ {n : Nat} {l : List AV}, shortK n l = false → n < l.length
  | 0, [], h => by cases h
  | 0, a :: l, h => by simp
  | n + 1, [], h => by cases h
  | n + 1, a :: l, h => by
    have := shortK_f (n := n) (l := l) h
    simp; omega
theorem setK_eq : ∀ {n : Nat} {l : List AV} (v : AV), n < l.length → setK n l v = splice l n [v]
  | 0, [], v, h => by simp at h
  | 0, a :: l, v, h => by
    show v :: l = _
    simp [splice]
  | n + 1, [], v, h => by simp at h
  | n + 1, a :: l, v, h => by
    have := setK_eq (n := n) (l := l) v (by simpa using h)
    show a :: setK n l v = _
    rw [this]
    simp [splice]
theorem getN_eq : ∀ (t : Tr Obj) (n : Nat), getN t n = t.get n
  | .leaf, n => by rw [Tr.get_leaf]; rfl
  | .node v l r, n => by
    rw [Tr.get]
    show Bool.rec (motive := fun _ => Option Obj) (Bool.rec (motive := fun _ => Option Obj) (getN r (Nat.pred (Nat.div n 2))) (getN l (Nat.div n 2)) (Nat.beq (Nat.mod n 2) 1)) v (Nat.beq n 0) = _
    rw [getN_eq l, getN_eq r]
    cases n.beq 0 with
    | true => rfl
    | false =>
      show Bool.rec (motive := fun _ => Option Obj) _ _ (Nat.beq (n % 2) 1) = _
      cases (n % 2).beq 1 <;> rfl
theorem setN_eq : ∀ (f : Nat) (t : Tr Obj) (n : Nat) (x : Obj), setN f t n x = Tr.set f t n x
  | 0, t, n, x => rfl
  | f + 1, t, n, x => by
    have ih := setN_eq f
    cases t with
    | leaf =>
      rw [Tr.set]
      show Bool.rec (motive := fun _ => Tr Obj) (Bool.rec (motive := fun _ => Tr Obj) (Tr.node none .leaf (setN f .leaf (Nat.pred (Nat.div n 2)) x)) (Tr.node none (setN f .leaf (Nat.div n 2) x) .leaf) (Nat.beq (Nat.mod n 2) 1)) (Tr.node (some x) .leaf .leaf) (Nat.beq n 0) = _
      rw [ih, ih]
      cases n.beq 0 with
      | true => rfl
      | false =>
        show Bool.rec (motive := fun _ => Tr Obj) _ _ (Nat.beq (n % 2) 1) = _
        cases (n % 2).beq 1 <;> rfl
    | node v l r =>
      rw [Tr.set]
      show Bool.rec (motive := fun _ => Tr Obj) (Bool.rec (motive := fun _ => Tr Obj) (Tr.node v l (setN f r (Nat.pred (Nat.div n 2)) x)) (Tr.node v (setN f l (Nat.div n 2) x) r) (Nat.beq (Nat.mod n 2) 1)) (Tr.node (some x) l r) (Nat.beq n 0) = _
      rw [ih, ih]
      cases n.beq 0 with
      | true => rfl
      | false =>
        show Bool.rec (motive := fun _ => Tr Obj) _ _ (Nat.beq (n % 2) 1) = _
        cases (n % 2).beq 1 <;> rfl
theorem appK_eq (d : Did) (st : St) : appK d st = d.app st := by
  cases d with
  | kept => rfl
  | looked => rfl
  | all a b => rfl
  | wrote id o =>
    obtain ⟨h, ro, objs⟩ := st
    show (⟨h, ro, setN (Nat.succ id) objs id o⟩ : St) = ⟨h, ro, objs.put id o⟩
    rw [setN_eq]; rfl
  | made n o =>
    obtain ⟨h, ro, objs⟩ := st
    show (⟨Nat.succ h, ro, setN (Nat.succ h) objs h o⟩ : St) = ⟨h + 1, ro, objs.put h o⟩
    rw [setN_eq]; rfl
theorem objK_t {st : St} {i : Nat} {k : Obj → Bool} (h : objK st i k = true) : ∃ o, st.get i = .ok o ∧ k o = true := by
  obtain ⟨m, ro, objs⟩ := st
  obtain ⟨h1, h2⟩ := andK_t (k := Option.rec (motive := fun _ => Bool) false (fun o => k o) (getN objs i)) h
  cases hg : getN objs i with
  | none => rw [hg] at h2; cases h2
  | some o =>
    rw [hg] at h2
    rw [getN_eq] at hg
    exact ⟨o, St.get_ok.2 ⟨Nat.le_of_ble_eq_true h1, hg⟩, h2⟩
theorem cellsK_t {o : Obj} {k : TypeId → List AV → Bool} (h : cellsK o k = true) : ∃ t cs, o = .cells t cs ∧ k t cs = true := by
  cases o <;> first | exact ⟨_, _, rfl, h⟩ | cases h
theorem growK_t {o : Obj} {k : Nat → Nat → List AV → Bool} (h : growK o k = true) : ∃ n e z es, o = .grow n e z es ∧ k n z es = true := by
  cases o <;> first | exact ⟨_, _, _, _, rfl, h⟩ | cases h
theorem takeK_t {size : Nat} {agg : Bool} {cs : List AV} {k : AV → Bool} (h : takeK size agg cs k = true) : ∃ v, takeCells size agg cs = .ok v ∧ k v = true := by
  cases agg with
  | false =>
    cases cs with
    | nil => cases h
    | cons v l => exact ⟨v, rfl, h⟩
  | true =>
    have h : Bool.rec (motive := fun _ => Bool) (andK (Nat.ble size cs.length) (k (.agg (cs.take size)))) (k (.agg cs)) (Nat.beq size cs.length) = true := h
    cases hb : Nat.beq size cs.length with
    | true =>
      rw [hb] at h
      have e := Nat.eq_of_beq_eq_true hb
      refine ⟨.agg cs, ?_, h⟩
      simp only [takeCells]
      rw [Nat.ble_eq_true_of_le (Nat.le_of_eq e), e, List.take_length]
    | false =>
      rw [hb] at h
      obtain ⟨h1, h2⟩ := andK_t h
      exact ⟨_, by simp only [takeCells, h1], h2⟩
theorem notK_eq (b : Bool) : notK b = !b := by cases b <;> rfl
theorem notK_f {b : Bool} (h : notK b = true) : b = false := by cases b; rfl; cases h

theorem flatV_ok {v : AV} (h : flatV v = true) : strip v = v ∧ bare v = true ∧ ∀ (st : St) (b n : Nat), freeze st b (n + 1) v = .ok v := by
  cases v <;> first | (cases h; done) | exact ⟨rfl, rfl, fun _ _ _ => rfl⟩
theorem flatAll_ok : ∀ {l : List AV}, flatAll l = true → bares l = true ∧ ∀ (st : St) (b n : Nat), allE (freeze st b (n + 1)) l = .ok l
  | [], _ => ⟨rfl, fun _ _ _ => rfl⟩
  | v :: l, h => by
    obtain ⟨h1, h2⟩ := andK_t (b := flatV v) (k := flatAll l) h
    obtain ⟨_, b1, f1⟩ := flatV_ok h1
    obtain ⟨b2, f2⟩ := flatAll_ok h2
    refine ⟨?_, fun st b n => ?_⟩
    · show (bare v && bares l) = true
      rw [b1, b2]; rfl
    · simp only [allE, f1, f2]; rfl
theorem flatT_ok {v : AV} (h : flatT v = true) : bare v = true ∧ ∀ (st : St) (b : Nat), freeze st b 100 v = .ok v := by
  cases v with
  | tup vs =>
    obtain ⟨h1, h2⟩ := flatAll_ok (l := vs) h
    exact ⟨h1, fun st b => by show (do pure (AV.tup (← allE (freeze st b (98 + 1)) vs))) = _; rw [h2]; rfl⟩
  | _ => first | (cases h; done) | exact ⟨rfl, fun _ _ => rfl⟩
theorem stripsK_eq : ∀ (l : List AV), stripsK l = l.map strip
  | [] => rfl
  | v :: l => by
    show stripK v :: stripsK l = _
    rw [stripsK_eq l]
    unfold stripK
    cases h : flatV v with
    | true => rw [List.map_cons, (flatV_ok h).1]
    | false => rfl
theorem baresK_eq : ∀ (l : List AV), baresK l = bares (l.map strip)
  | [] => rfl
  | v :: l => by
    show andK (Bool.rec (motive := fun _ => Bool) (bare (strip v)) true (flatV v)) (baresK l) = (bare (strip v) && bares (l.map strip))
    rw [baresK_eq l]
    cases h : flatV v with
    | true => rw [(flatV_ok h).1, (flatV_ok h).2.1]; rfl
    | false =>
      show andK (bare (strip v)) _ = _
      cases bare (strip v) <;> rfl
theorem lenB_eq (l : List UInt8) : lenB l = l.length := by
  have : ∀ (l : List UInt8) (n : Nat), List.rec (motive := fun _ => Nat → Nat) (fun n => n) (fun _ _ ih n => Bool.rec (motive := fun _ => Nat) (ih (Nat.succ n)) (ih (Nat.succ n)) (Nat.beq n 0)) l n = n + l.length := by
    intro l
    induction l with
    | nil => intro n; rfl
    | cons a l ih =>
      intro n
      show Bool.rec (motive := fun _ => Nat) _ _ (Nat.beq n 0) = _
      rw [List.length_cons]
      cases Nat.beq n 0 <;> (dsimp only; rw [ih]; omega)
  unfold lenB
  rw [this, Nat.zero_add]
theorem takeB_eq {l : List UInt8} {n : Nat} : takeB l n = l.take n := by
  unfold takeB
  cases h : Nat.beq n l.length with
  | true => rw [Nat.eq_of_beq_eq_true h, List.take_length]
  | false => rfl
theorem allB_ok : ∀ {n : Nat} {l : List AV}, allB n l = true → n ≤ l.length ∧ bytesOf (l.take n) = .ok (mapB n l)
  | 0, l, _ => ⟨Nat.zero_le _, by rw [List.take_zero]; rfl⟩
  | n + 1, [], h => by cases h
  | n + 1, v :: l, h => by
    obtain ⟨h1, h2⟩ := andK_t (b := byteK v) (k := allB n l) h
    obtain ⟨h3, h4⟩ := allB_ok h2
    refine ⟨by simp; omega, ?_⟩
    have : ∃ m, v = .int .u8 m := by
      cases v <;> first | (cases h1; done) | skip
      rename_i k m
      have := of_decide_eq_true (show decide (k = .u8) = true from h1)
      subst this
      exact ⟨m, rfl⟩
    obtain ⟨m, rfl⟩ := this
    rw [List.take_succ_cons]
    simp only [bytesOf, h4]
    rfl

/- Numbers. -/
theorem wrap_low (k : IntKind) (n : Int) (h : -(lowK k : Int) ≤ n) (h' : n < 0) : k.wrap n = n := by
  cases k <;> simp [IntKind.wrap, IntKind.bits, IntKind.signed, lowK] at h ⊢ <;> omega
theorem wrapK_eq (k : IntKind) (n : Int) : wrapK k n = k.wrap n := by
  cases n with
  | ofNat m =>
    show Bool.rec (motive := fun _ => Int) (k.wrap (.ofNat m)) (.ofNat m) (Nat.ble m (topK k)) = _
    cases h : Nat.ble m (topK k) with
    | false => rfl
    | true =>
      have := Nat.le_of_ble_eq_true h
      show Int.ofNat m = _
      cases k <;> simp only [topK] at this <;> simp [IntKind.wrap, IntKind.bits, IntKind.signed] <;> omega
  | negSucc m =>
    show Bool.rec (motive := fun _ => Int) (k.wrap (.negSucc m)) (.negSucc m) (Nat.ble (Nat.succ m) (lowK k)) = _
    cases h : Nat.ble (Nat.succ m) (lowK k) with
    | false => rfl
    | true =>
      have := Nat.le_of_ble_eq_true h
      show Int.negSucc m = _
      exact (wrap_low k _ (by rw [Int.negSucc_eq]; omega) (by rw [Int.negSucc_eq]; omega)).symm
theorem addK_eq (a b : Int) : addK a b = a + b := by
  cases a with
  | negSucc m => rfl
  | ofNat m =>
    cases b with
    | ofNat n => rfl
    | negSucc n =>
      show Bool.rec (motive := fun _ => Int) (Int.negSucc (Nat.sub n m)) (Int.ofNat (Nat.sub m (Nat.succ n))) (Nat.ble (Nat.succ n) m) = _
      cases h : Nat.ble (Nat.succ n) m with
      | true =>
        have := Nat.le_of_ble_eq_true h
        show Int.ofNat (m - (n + 1)) = _
        simp only [Int.ofNat_eq_natCast, Int.negSucc_eq]; omega
      | false =>
        have : ¬ n + 1 ≤ m := fun e => by rw [Nat.ble_eq_true_of_le e] at h; cases h
        show Int.negSucc (n - m) = _
        simp only [Int.ofNat_eq_natCast, Int.negSucc_eq]; omega
theorem subK_eq (a b : Int) : subK a b = a - b := by
  cases a with
  | negSucc m => rfl
  | ofNat m =>
    cases b with
    | ofNat n =>
      show Bool.rec (motive := fun _ => Int) (Int.negSucc (Nat.sub n (Nat.succ m))) (Int.ofNat (Nat.sub m n)) (Nat.ble n m) = _
      cases h : Nat.ble n m with
      | true =>
        have := Nat.le_of_ble_eq_true h
        show Int.ofNat (m - n) = _
        simp only [Int.ofNat_eq_natCast]; omega
      | false =>
        have : ¬ n ≤ m := fun e => by rw [Nat.ble_eq_true_of_le e] at h; cases h
        show Int.negSucc (n - (m + 1)) = _
        simp only [Int.ofNat_eq_natCast, Int.negSucc_eq]; omega
    | negSucc n =>
      show Int.ofNat (m + (n + 1)) = _
      simp only [Int.ofNat_eq_natCast, Int.negSucc_eq]; omega
theorem ble_dec (a b : Nat) : Nat.ble a b = decide (a ≤ b) := by
  cases h : Nat.ble a b with
  | true => rw [decide_eq_true (Nat.le_of_ble_eq_true h)]
  | false => rw [decide_eq_false fun e => by rw [Nat.ble_eq_true_of_le e] at h; cases h]
theorem beq_dec (a b : Nat) : Nat.beq a b = decide (a = b) := by
  cases h : Nat.beq a b with
  | true => rw [decide_eq_true (Nat.eq_of_beq_eq_true h)]
  | false => rw [decide_eq_false fun e => by subst e; rw [Nat.beq_refl] at h; cases h]
theorem ltK_eq (a b : Int) : ltK a b = decide (a < b) := by
  cases a <;> cases b
  · show Nat.ble (Nat.succ _) _ = _
    rw [ble_dec]; congr 1; simp only [Int.ofNat_eq_natCast, eq_iff_iff]; omega
  · show false = _
    rw [decide_eq_false]; simp only [Int.ofNat_eq_natCast, Int.negSucc_eq]; omega
  · show true = _
    rw [decide_eq_true]; simp only [Int.ofNat_eq_natCast, Int.negSucc_eq]; omega
  · show Nat.ble (Nat.succ _) _ = _
    rw [ble_dec]; congr 1; simp only [Int.negSucc_eq, eq_iff_iff]; omega
theorem eqK_eq (a b : Int) : eqK a b = decide (a = b) := by
  cases a <;> cases b
  · show Nat.beq _ _ = _
    rw [beq_dec]; congr 1; simp only [Int.ofNat_eq_natCast, eq_iff_iff]; omega
  · show false = _
    rw [decide_eq_false]; simp only [Int.ofNat_eq_natCast, Int.negSucc_eq]; omega
  · show false = _
    rw [decide_eq_false]; simp only [Int.ofNat_eq_natCast, Int.negSucc_eq]; omega
  · show Nat.beq _ _ = _
    rw [beq_dec]; congr 1; simp only [Int.negSucc_eq, eq_iff_iff]; omega
theorem eqS_eq : ∀ (a b : List UInt8), eqS a b = (a == b)
  | [], [] => rfl
  | [], _ :: _ => rfl
  | _ :: _, [] => rfl
  | x :: a, y :: b => by
    show Bool.rec (motive := fun _ => Bool) false (eqS a b) (Nat.beq x.toNat y.toNat) = _
    rw [eqS_eq a b]
    cases h : Nat.beq x.toNat y.toNat with
    | true =>
      have : x = y := UInt8.toNat_inj.1 (Nat.eq_of_beq_eq_true h)
      subst this
      simp
    | false =>
      have : x ≠ y := fun e => by subst e; rw [Nat.beq_refl] at h; cases h
      simp [this]
theorem bits_nat {k : IntKind} {m : Nat} (h : Nat.ble m (topK k) = true) : (BitVec.ofInt k.bits (Int.ofNat m)).toNat = m := by
  have h := Nat.le_of_ble_eq_true h
  rw [show Int.ofNat m = (m : Int) from rfl, BitVec.ofInt_natCast, BitVec.toNat_ofNat]
  refine Nat.mod_eq_of_lt ?_
  cases k <;> simp only [topK] at h <;> simp only [IntKind.bits] <;> omega
theorem top_pow (k : IntKind) : ∃ b, topK k + 1 = 2 ^ b := by
  cases k
  · exact ⟨7, rfl⟩
  · exact ⟨15, rfl⟩
  · exact ⟨31, rfl⟩
  · exact ⟨63, rfl⟩
  · exact ⟨8, rfl⟩
  · exact ⟨16, rfl⟩
  · exact ⟨32, rfl⟩
  · exact ⟨64, rfl⟩
theorem wrap_top {k : IntKind} {m : Nat} (h : m ≤ topK k) : k.wrap (m : Int) = m := by
  have := wrapK_eq k (.ofNat m)
  rw [← show Int.ofNat m = (m : Int) from rfl, ← this]
  show Bool.rec (motive := fun _ => Int) (k.wrap (.ofNat m)) (.ofNat m) (Nat.ble m (topK k)) = _
  rw [Nat.ble_eq_true_of_le h]
theorem bitsK_eq {f : Nat → Nat → Nat} {slow : IntKind → Int → Int → Int} {k : IntKind} (h : ∀ m n, Nat.ble m (topK k) = true → Nat.ble n (topK k) = true → (Int.ofNat (f m n)) = slow k (.ofNat m) (.ofNat n)) (a b : Int) : bitsK f slow k a b = slow k a b := by
  cases a with
  | negSucc m => rfl
  | ofNat m =>
    cases b with
    | negSucc n => rfl
    | ofNat n =>
      show Bool.rec (motive := fun _ => Int) (slow k (.ofNat m) (.ofNat n)) (Bool.rec (motive := fun _ => Int) (slow k (.ofNat m) (.ofNat n)) (.ofNat (f m n)) (Nat.ble n (topK k))) (Nat.ble m (topK k)) = _
      cases h1 : Nat.ble m (topK k) with
      | false => rfl
      | true =>
        cases h2 : Nat.ble n (topK k) with
        | false => rfl
        | true => exact h m n h1 h2
theorem and_fast {k : IntKind} (m n : Nat) (h1 : Nat.ble m (topK k) = true) (h2 : Nat.ble n (topK k) = true) : Int.ofNat (Nat.land m n) = slowAnd k (.ofNat m) (.ofNat n) := by
  unfold slowAnd
  rw [BitVec.toNat_and, bits_nat h1, bits_nat h2]
  obtain ⟨b, hb⟩ := top_pow k
  have l1 := Nat.le_of_ble_eq_true h1
  have l2 := Nat.le_of_ble_eq_true h2
  have : m &&& n < 2 ^ b := Nat.and_lt_two_pow m (by omega)
  exact (wrap_top (show Nat.land m n ≤ topK k from by have : Nat.land m n < 2 ^ b := this; omega)).symm
theorem or_fast {k : IntKind} (m n : Nat) (h1 : Nat.ble m (topK k) = true) (h2 : Nat.ble n (topK k) = true) : Int.ofNat (Nat.lor m n) = slowOr k (.ofNat m) (.ofNat n) := by
  unfold slowOr
  rw [BitVec.toNat_or, bits_nat h1, bits_nat h2]
  obtain ⟨b, hb⟩ := top_pow k
  have l1 := Nat.le_of_ble_eq_true h1
  have l2 := Nat.le_of_ble_eq_true h2
  have : m ||| n < 2 ^ b := Nat.or_lt_two_pow (by omega) (by omega)
  exact (wrap_top (show Nat.lor m n ≤ topK k from by have : Nat.lor m n < 2 ^ b := this; omega)).symm
theorem xor_fast {k : IntKind} (m n : Nat) (h1 : Nat.ble m (topK k) = true) (h2 : Nat.ble n (topK k) = true) : Int.ofNat (Nat.xor m n) = slowXor k (.ofNat m) (.ofNat n) := by
  unfold slowXor
  rw [BitVec.toNat_xor, bits_nat h1, bits_nat h2]
  obtain ⟨b, hb⟩ := top_pow k
  have l1 := Nat.le_of_ble_eq_true h1
  have l2 := Nat.le_of_ble_eq_true h2
  have : m ^^^ n < 2 ^ b := Nat.xor_lt_two_pow (by omega) (by omega)
  exact (wrap_top (show Nat.xor m n ≤ topK k from by have : Nat.xor m n < 2 ^ b := this; omega)).symm
theorem intG_ok {op : BinOp} {g : IntKind → Int → Int → AV} (h : intG op = some g) (k : IntKind) (a b : Int) : intOp op k a b = .ok (g k a b) ∧ op ≠ .shl ∧ op ≠ .shr := by
  cases op <;> simp only [intG, Option.some.injEq, reduceCtorEq] at h <;> subst h <;> refine ⟨?_, by decide, by decide⟩ <;>
    simp only [intOp, wrapK_eq, addK_eq, subK_eq, eqK_eq, ltK_eq, notK_eq, bitsK_eq and_fast, bitsK_eq or_fast, bitsK_eq xor_fast]
  all_goals first | rfl | skip
  all_goals
    congr 2
    by_cases h1 : b < a <;> by_cases h2 : a < b <;> simp [h1, h2] <;> omega
theorem strG_ok {op : BinOp} {g : List UInt8 → List UInt8 → AV} (h : strG op = some g) (a b : List UInt8) : strOp op a b = .ok (g a b) ∧ op ≠ .shl ∧ op ≠ .shr := by
  cases op <;> simp only [strG, Option.some.injEq, reduceCtorEq] at h <;> subst h <;> refine ⟨?_, by decide, by decide⟩ <;>
    simp only [strOp, eqS_eq, notK_eq]
end Go.VM
