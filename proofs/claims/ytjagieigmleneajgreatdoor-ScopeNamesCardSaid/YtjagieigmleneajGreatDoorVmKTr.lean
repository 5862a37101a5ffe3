/- What the translation makes of an operation does what the operation does. -/
import Derived.Test.YtjagieigmleneajGreatDoorVmKOps
namespace Go.VM

/-- The fast callers tell what the callers tell. -/
structure KGood (K : KX) : Prop where
  bare : ∀ f args k, K.C.bare f args k = true → ∃ v, K.X.C.bare f args = .ok v ∧ k v = true
  wide : ∀ f args st k, K.C.wide f args st k = true → ∃ v s, K.X.C.wide f args st = .ok (v, s) ∧ k v s = true
  look : ∀ f args st k, K.C.look f args st k = true → ∃ v, K.X.C.look f args st = .ok v ∧ k v = true
structure KTOk (X : KT) (K : KX) : Prop where
  T : X.T = K.X.T
  prim : X.prim = K.X.prim
  imm : X.imm = K.X.imm
  G : X.G = K.X.G
  full : X.full = K.X.C.full
  isLook : X.isLook = K.X.C.isLook
  n : X.n = K.n

def run (X : Cx) (fr : Fr) (st : St) (o : Op) : Res (AV × Fx) := plan X.T X.prim X.imm X.G fr o >>= runPlan X.C st
def PV (K : KX) (fr : Fr) (t : Frm) (o : Op) (f : VF) : Prop := ∀ k, f t k = true → ∃ v, plan K.X.T K.X.prim K.X.imm K.X.G fr o = .ok (.val v) ∧ k v = true
def PX (K : KX) (fr : Fr) (t : Frm) (o : Op) (f : KFx) : Prop := ∀ st k, f K t st k = true → ∃ v x, run K.X fr st o = .ok (v, x) ∧ k v x = true
def TkOk (K : KX) (fr : Fr) (t : Frm) (o : Op) : Tk → Prop
  | .v f => PV K fr t o f
  | .x f => PX K fr t o f
theorem okBind {α β : Type} {x : Res α} {a : α} {f : α → Res β} (h : x = .ok a) : (x >>= f) = f a := by rw [h]; rfl
theorem PV.x {K : KX} {fr : Fr} {t : Frm} {o : Op} {f : VF} (h : PV K fr t o f) : PX K fr t o (opValX f) := by
  intro st k hk
  obtain ⟨v, h1, h2⟩ := h _ hk
  exact ⟨v, _, by rw [run, okBind h1]; rfl, h2⟩

theorem trV1_some {f : KO → VF} {G : Nat → Option (List AV)} {x : Operand} {tk : Tk} (h : trV1 f G x = some tk) : ∃ a, trO G x = some a ∧ tk = .v (f a) := by
  unfold trV1 at h
  split at h
  · rename_i a ha; cases h; exact ⟨a, ha, rfl⟩
  · cases h
theorem trV2_some {f : KO → KO → VF} {G : Nat → Option (List AV)} {x y : Operand} {tk : Tk} (h : trV2 f G x y = some tk) : ∃ a b, trO G x = some a ∧ trO G y = some b ∧ tk = .v (f a b) := by
  unfold trV2 at h
  split at h
  · rename_i a b ha hb; cases h; exact ⟨a, b, ha, hb, rfl⟩
  · cases h
theorem binOp_int {T : TT} {op : BinOp} {t : TypeId} {k : IntKind} {a b : Int} (h1 : op ≠ .shl) (h2 : op ≠ .shr) : binOp T op t (.int k a) (.int k b) = intOp op k a b := by
  cases op <;> first | exact absurd rfl h1 | exact absurd rfl h2 | simp [binOp]
theorem binOp_str {T : TT} {op : BinOp} {t : TypeId} {a b : List UInt8} (h1 : op ≠ .shl) (h2 : op ≠ .shr) : binOp T op t (.str a) (.str b) = strOp op a b := by
  cases op <;> first | exact absurd rfl h1 | exact absurd rfl h2 | simp [binOp]
variable {X : KT} {K : KX} {fr : Fr} {t : Frm}
theorem trMv_ok (hX : KTOk X K) (h : FR fr K.n t) {x : Operand} {tk : Tk} {o : Op} (ho : o = .move x ∨ o = .assign x) (ht : trV1 vMv X.G x = some tk) : TkOk K fr t o tk := by
  obtain ⟨a, ha, rfl⟩ := trV1_some ht
  intro k hk
  rw [hX.G] at ha
  refine ⟨_, ?_, hk⟩
  rcases ho with rfl | rfl <;> exact okBind (trO_ok h ha)
theorem trBin_ok (hX : KTOk X K) (h : FR fr K.n t) {op : BinOp} {ty ty' : TypeId} {x y : Operand} {tk : Tk} (ht : trBin X op ty x y = some tk) : TkOk K fr t (.binOp op ty x y ty') tk := by
  unfold trBin at ht
  split at ht
  · rename_i i hi
    split at ht
    · split at ht
      · rename_i g hg
        obtain ⟨a, b, ha, hb, rfl⟩ := trV2_some ht
        intro k hk
        rw [hX.G] at ha hb
        obtain ⟨ka, m, e1, hk⟩ := intK_t hk
        obtain ⟨kb, n, e2, hk⟩ := intK_t hk
        obtain ⟨e3, hk'⟩ := andK_t hk
        have e3 := of_decide_eq_true e3
        subst e3
        obtain ⟨g1, g2, g3⟩ := intG_ok hg ka m n
        refine ⟨_, ?_, hk'⟩
        show ((do binOp K.X.T op ty (← evalO K.X.G fr x) (← evalO K.X.G fr y)) >>= fun r => pure (Plan.val r)) = _
        rw [okBind (trO_ok h ha), okBind (trO_ok h hb), e1, e2, binOp_int g2 g3, g1]; rfl
      · cases ht
    · split at ht
      · rename_i g hg
        obtain ⟨a, b, ha, hb, rfl⟩ := trV2_some ht
        intro k hk
        rw [hX.G] at ha hb
        obtain ⟨m, e1, hk⟩ := strK_t hk
        obtain ⟨n, e2, hk⟩ := strK_t hk
        obtain ⟨g1, g2, g3⟩ := strG_ok hg m n
        refine ⟨_, ?_, hk⟩
        show ((do binOp K.X.T op ty (← evalO K.X.G fr x) (← evalO K.X.G fr y)) >>= fun r => pure (Plan.val r)) = _
        rw [okBind (trO_ok h ha), okBind (trO_ok h hb), e1, e2, binOp_str g2 g3, g1]; rfl
      · cases ht
    · cases ht
  · cases ht
theorem trNot_ok (hX : KTOk X K) (h : FR fr K.n t) {ty : TypeId} {x : Operand} {tk : Tk} (ht : trV1 vNot X.G x = some tk) : TkOk K fr t (.unOp .not ty x) tk := by
  obtain ⟨a, ha, rfl⟩ := trV1_some ht
  intro k hk
  rw [hX.G] at ha
  obtain ⟨b, e1, hk⟩ := boolK_t hk
  refine ⟨_, ?_, hk⟩
  show ((do unOp .not (← evalO K.X.G fr x)) >>= fun r => pure (Plan.val r)) = _
  rw [okBind (trO_ok h ha), e1, notK_eq]; rfl
theorem trConv_ok (hX : KTOk X K) (h : FR fr K.n t) {s d : TypeId} {x : Operand} {tk : Tk} (ht : trConv X s d x = some tk) : TkOk K fr t (.convert s d x) tk := by
  unfold trConv at ht
  split at ht
  · rename_i i j hi hj
    split at ht
    · rename_i ki kj ei ej
      obtain ⟨a, ha, rfl⟩ := trV1_some ht
      intro k hk
      rw [hX.G] at ha
      rw [hX.T] at hi hj
      obtain ⟨b, n, e1, hk⟩ := intK_t hk
      refine ⟨_, ?_, hk⟩
      show (do convertP K.X.T s d (← evalO K.X.G fr x)) = _
      rw [okBind (trO_ok h ha), e1, convertP, okBind hi, okBind hj, ei, ej, wrapK_eq]; rfl
    · rename_i e eu es
      split at ht
      · rename_i u hu
        split at ht
        · rename_i hby
          split at ht
          · rename_i a ha
            cases ht
            rw [hX.G] at ha
            rw [hX.T] at hi hj hu
            intro st k hk
            have e0 : ∀ v, getO a t = v → plan K.X.T K.X.prim K.X.imm K.X.G fr (.convert s d x) = convertP K.X.T s d v := by
              intro v hv
              show (do convertP K.X.T s d (← evalO K.X.G fr x)) = _
              rw [okBind (trO_ok h ha), hv]
            rcases slK_t hk with ⟨e1, hk⟩ | ⟨z, l, p, e1, hk⟩ | ⟨id, o, z, n, c, e1, hk⟩ | ⟨id, z, n, e1, hk⟩
            · exact ⟨_, _, by rw [run, e0 _ e1, convertP, okBind hi, okBind hj, eu, es]; dsimp only; rw [okBind hu, hby]; rfl, hk⟩
            · obtain ⟨b1, hk⟩ := andK_t hk
              obtain ⟨_, b2⟩ := allB_ok b1
              rw [List.take_length] at b2
              exact ⟨_, _, by rw [run, e0 _ e1, convertP, okBind hi, okBind hj, eu, es]; dsimp only; rw [okBind hu, hby]; dsimp only; rw [b2]; rfl, hk⟩
            · obtain ⟨ob, g1, hk⟩ := objK_t hk
              obtain ⟨ty', cs, rfl, hk⟩ := cellsK_t hk
              obtain ⟨b1, hk⟩ := andK_t hk
              rw [dropK_eq] at b1 hk
              obtain ⟨b2, b3⟩ := allB_ok b1
              refine ⟨_, _, ?_, hk⟩
              rw [run, e0 _ e1, convertP, okBind hi, okBind hj, eu, es]
              dsimp only
              rw [okBind hu, hby]
              show runPlan K.X.C st (readP id _) = _
              simp only [readP, runPlan]
              rw [okBind g1, okBind (a := (AV.str (mapB n (cs.drop o)), none)) (by
                show (do pure (← (match n.ble (cs.drop o).length with | true => (do pure (AV.str (← bytesOf ((cs.drop o).take n)))) | false => .error "convert: length"), none)) = _
                rw [Nat.ble_eq_true_of_le b2]
                dsimp only
                rw [b3]; rfl)]
              rfl
            · cases hk
          · cases ht
        · cases ht
      · cases ht
    · cases ht
  · cases ht
theorem trIface_ok (hX : KTOk X K) (h : FR fr K.n t) {ty : TypeId} {x : Operand} {tk : Tk} (ht : trIface X ty x = some tk) : TkOk K fr t (.makeInterface ty x) tk := by
  unfold trIface at ht
  split at ht
  · rename_i i hi
    rw [hX.T] at hi
    have key : ∀ tk, trV1 (vIface ty) X.G x = some tk → (∀ b, i.und ≠ .iface b) → i.und ≠ .other → TkOk K fr t (.makeInterface ty x) tk := by
      intro tk ht n1 n2
      obtain ⟨a, ha, rfl⟩ := trV1_some ht
      intro k hk
      rw [hX.G] at ha
      refine ⟨_, ?_, hk⟩
      show ((ti K.X.T ty >>= fun i => match i.und with
        | .iface _ | .other => (.error "makeInterface" : Res AV)
        | _ => do pure (AV.iface ty (← evalO K.X.G fr x))) >>= fun r => pure (Plan.val r)) = _
      rw [okBind hi]
      cases hu : i.und <;> first | exact absurd hu (n1 _) | exact absurd hu n2 | (dsimp only; rw [okBind (trO_ok h ha)]; rfl)
    cases hu : i.und <;> rw [hu] at ht <;> first | cases ht | exact key _ ht (by intro b e; rw [hu] at e; cases e) (by intro e; rw [hu] at e; cases e)
  · cases ht
theorem trFieldAddr_ok (hX : KTOk X K) (h : FR fr K.n t) {ty : TypeId} {x : Operand} {f : Nat} {tk : Tk} (ht : trFieldAddr X ty x f = some tk) : TkOk K fr t (.fieldAddr ty x f) tk := by
  unfold trFieldAddr at ht
  split at ht
  · rename_i i hi
    split at ht
    · rename_i fs hu
      split at ht
      · rename_i off ft hf
        split at ht
        · rename_i j hj
          split at ht
          · cases ht
          · rename_i n hn
            obtain ⟨a, ha, rfl⟩ := trV1_some ht
            intro k hk
            rw [hX.G] at ha
            rw [hX.T] at hi hj
            have e : ∀ v, getO a t = v → (do fieldAddr K.X.T ty (← evalO K.X.G fr x) f) = (match v with
              | .ip cells => (pure (.ip (cells.drop off)) : Res AV)
              | .mp id o => pure (.mp id (o + off))
              | _ => .error "fieldAddr: no address") := by
              intro v hv
              rw [okBind (trO_ok h ha), fieldAddr, okBind hi, hu]
              dsimp only
              rw [hf]
              dsimp only
              rw [okBind hj, hn, hv]
              cases v <;> rfl
            rcases adrK_t hk with ⟨c, e1, hk⟩ | ⟨i, o, e1, hk⟩
            · rw [dropK_eq] at hk
              refine ⟨_, ?_, hk⟩
              show ((do fieldAddr K.X.T ty (← evalO K.X.G fr x) f) >>= fun r => pure (Plan.val r)) = _
              rw [e _ e1]; rfl
            · refine ⟨_, ?_, hk⟩
              show ((do fieldAddr K.X.T ty (← evalO K.X.G fr x) f) >>= fun r => pure (Plan.val r)) = _
              rw [e _ e1]; rfl
        · cases ht
      · cases ht
    · cases ht
  · cases ht
theorem trField_ok (hX : KTOk X K) (h : FR fr K.n t) {ty : TypeId} {x : Operand} {f : Nat} {tk : Tk} (ht : trField X ty x f = some tk) : TkOk K fr t (.field ty x f) tk := by
  unfold trField at ht
  split at ht
  · rename_i i hi
    split at ht
    · rename_i fs hu
      split at ht
      · rename_i off ft hf
        split at ht
        · rename_i j hj
          obtain ⟨a, ha, rfl⟩ := trV1_some ht
          intro k hk
          rw [hX.G] at ha
          rw [hX.T] at hi hj
          obtain ⟨c, e1, hk⟩ := aggK_t hk
          obtain ⟨v, e2, hk⟩ := takeK_t hk
          rw [dropK_eq] at e2
          refine ⟨v, ?_, hk⟩
          show ((do field K.X.T ty (← evalO K.X.G fr x) f) >>= fun r => pure (Plan.val r)) = _
          rw [okBind (trO_ok h ha), e1, field, okBind hi, hu]
          dsimp only
          rw [hf]
          dsimp only
          rw [okBind hj, e2]; rfl
        · cases ht
      · cases ht
    · cases ht
  · cases ht
theorem plan_index {ty : TypeId} {x y : Operand} {v : AV} (hx : evalO K.X.G fr x = .ok v) (hn : ∀ k z n, v ≠ .gs k z n) : plan K.X.T K.X.prim K.X.imm K.X.G fr (.indexAddr ty x y) = ((do indexAddr K.X.T ty v (← evalO K.X.G fr y)) >>= fun r => pure (Plan.val r)) := by
  show (do
    match ← evalO K.X.G fr x with
    | .gs k z n => do gsIndexP K.X.T ty k z n (← evalO K.X.G fr y)
    | x => (do indexAddr K.X.T ty x (← evalO K.X.G fr y)) >>= fun r => pure (Plan.val r)) = _
  rw [okBind hx]
  cases v <;> first | rfl | exact absurd rfl (hn _ _ _)
theorem trIndexAddr_ok (hX : KTOk X K) (h : FR fr K.n t) {ty : TypeId} {x y : Operand} {tk : Tk} (ht : trIndexAddr X ty x y = some tk) : TkOk K fr t (.indexAddr ty x y) tk := by
  unfold trIndexAddr at ht
  split at ht
  · rename_i i hi
    split at ht
    · rename_i e hu
      split at ht
      · rename_i j hj
        split at ht
        · rename_i a b ha hb
          cases ht
          rw [hX.G] at ha hb
          rw [hX.T] at hi hj
          intro st k hk
          obtain ⟨kk, m, e2, hk⟩ := natK_t hk
          have hb' : evalO K.X.G fr y = .ok (.int kk (.ofNat m)) := by rw [trO_ok h hb, e2]
          rcases slK_t hk with ⟨_, hk⟩ | ⟨z, es, p, e1, hk⟩ | ⟨id, o, z, n, c, e1, hk⟩ | ⟨id, z, n, e1, hk⟩
          · cases hk
          · obtain ⟨e3, hk⟩ := andK_t hk
            obtain ⟨v, e4, e5, hk⟩ := nthK_t hk
            refine ⟨_, _, ?_, hk⟩
            have e0 : indexAddr K.X.T ty (.sl z es p) (.int kk (.ofNat m)) = .ok (.ip v.cells) := by
              rw [indexAddr, okBind (show asInt (.int kk (.ofNat m)) = .ok (.ofNat m) from rfl), okBind hi, hu]
              dsimp only
              rw [okBind (show inside (.ofNat m) es.length = .ok m by simp only [inside, blt_t e5]), okBind hj, e3]
              dsimp only
              rw [okBind e4]; rfl
            rw [run, plan_index (v := .sl z es p) (by rw [trO_ok h ha, e1]) (fun _ _ _ e => by cases e), okBind hb', e0]; rfl
          · obtain ⟨e3, hk⟩ := andK_t hk
            obtain ⟨e4, hk⟩ := andK_t hk
            refine ⟨_, _, ?_, hk⟩
            have e0 : indexAddr K.X.T ty (.ms id o z n c) (.int kk (.ofNat m)) = .ok (.mp id (o + m * z)) := by
              rw [indexAddr, okBind (show asInt (.int kk (.ofNat m)) = .ok (.ofNat m) from rfl), okBind hi, hu]
              dsimp only
              rw [okBind (show inside (.ofNat m) n = .ok m by simp only [inside, blt_t (Nat.le_of_ble_eq_true e4)]), okBind hj, e3]
              rfl
            rw [run, plan_index (v := .ms id o z n c) (by rw [trO_ok h ha, e1]) (fun _ _ _ e => by cases e), okBind hb', e0]; rfl
          · obtain ⟨e3, hk⟩ := andK_t hk
            obtain ⟨e4, hk⟩ := andK_t hk
            obtain ⟨ob, g1, hk⟩ := objK_t hk
            obtain ⟨n', e', z', es, rfl, hk⟩ := growK_t hk
            obtain ⟨e5, hk⟩ := andK_t hk
            obtain ⟨e6, hk⟩ := andK_t hk
            have hp : plan K.X.T K.X.prim K.X.imm K.X.G fr (.indexAddr ty x y) = gsIndexP K.X.T ty id z n (.int kk (.ofNat m)) := by
              show (do
                match ← evalO K.X.G fr x with
                | .gs k z n => do gsIndexP K.X.T ty k z n (← evalO K.X.G fr y)
                | x => (do indexAddr K.X.T ty x (← evalO K.X.G fr y)) >>= fun r => pure (Plan.val r)) = _
              rw [okBind (trO_ok h ha), e1]
              dsimp only
              rw [okBind hb']
            rw [run, hp, gsIndexP, okBind (show asInt (.int kk (.ofNat m)) = .ok (.ofNat m) from rfl), okBind (show inside (.ofNat m) n = .ok m by simp only [inside, blt_t (Nat.le_of_ble_eq_true e4)]), okBind hi, hu]
            dsimp only
            rw [okBind hj, e3]
            dsimp only
            show ∃ v x, runPlan K.X.C st (readP id _) = .ok (v, x) ∧ _
            simp only [readP, runPlan]
            rw [okBind g1]
            cases hlt : Nat.ble (Nat.succ m) es.length with
            | true =>
              rw [hlt] at hk
              obtain ⟨v, e7, e8, hk⟩ := nthK_t hk
              refine ⟨_, _, ?_, hk⟩
              simp only [e5, e6, Bool.and_self, show m.blt es.length = true from hlt]
              rw [okBind (a := (AV.ip v.cells, none)) (by rw [okBind e7]; rfl)]; rfl
            | false =>
              rw [hlt] at hk
              refine ⟨_, _, ?_, hk⟩
              simp only [e5, e6, Bool.and_self, show m.blt es.length = false from hlt]
              rfl
        · cases ht
      · cases ht
    · rename_i len e hu
      split at ht
      · rename_i j hj
        obtain ⟨a, b, ha, hb, rfl⟩ := trV2_some ht
        intro k hk
        rw [hX.G] at ha hb
        rw [hX.T] at hi hj
        obtain ⟨kk, m, e2, hk⟩ := natK_t hk
        obtain ⟨e4, hk⟩ := andK_t hk
        have e0 : ∀ v, getO a t = v → (do indexAddr K.X.T ty (← evalO K.X.G fr x) (← evalO K.X.G fr y)) = (match v with
            | .mp id off => (pure (.mp id (off + m * j.size)) : Res AV)
            | .ip cells => pure (.ip (cells.drop (m * j.size)))
            | _ => (do indexAddr K.X.T ty v (.int kk (.ofNat m)))) := by
          intro v hv
          rw [okBind (trO_ok h ha), okBind (trO_ok h hb), hv, e2]
          have hin : inside (.ofNat m) len = .ok m := by simp only [inside, blt_t (Nat.le_of_ble_eq_true e4)]
          cases v <;> first | rfl | skip
          all_goals
            rw [indexAddr, okBind (show asInt (.int kk (.ofNat m)) = .ok (.ofNat m) from rfl), okBind hi, hu]
            dsimp only
            rw [okBind hin, okBind hj]
        rcases adrK_t hk with ⟨c, e1, hk⟩ | ⟨id, o, e1, hk⟩
        · rw [dropK_eq] at hk
          refine ⟨_, ?_, hk⟩
          have e6 := e0 _ e1
          rw [okBind (trO_ok h ha), e1] at e6
          rw [plan_index (v := .ip c) (by rw [trO_ok h ha, e1]) (fun _ _ _ e => by cases e), e6]; rfl
        · refine ⟨_, ?_, hk⟩
          have e6 := e0 _ e1
          rw [okBind (trO_ok h ha), e1] at e6
          rw [plan_index (v := .mp id o) (by rw [trO_ok h ha, e1]) (fun _ _ _ e => by cases e), e6]; rfl
      · cases ht
    · cases ht
  · cases ht
theorem trIndex_ok (hX : KTOk X K) (h : FR fr K.n t) {ty : TypeId} {x y : Operand} {tk : Tk} (ht : trIndex X ty x y = some tk) : TkOk K fr t (.index ty x y) tk := by
  unfold trIndex at ht
  split at ht
  · rename_i i hi
    split at ht
    · rename_i hu
      obtain ⟨a, b, ha, hb, rfl⟩ := trV2_some ht
      intro k hk
      rw [hX.G] at ha hb
      rw [hX.T] at hi
      obtain ⟨kk, m, e2, hk⟩ := natK_t hk
      obtain ⟨s, e1, hk⟩ := strK_t hk
      obtain ⟨v, e4, e5, hk⟩ := nthB_t hk
      refine ⟨_, ?_, hk⟩
      show ((do indexV K.X.T ty (← evalO K.X.G fr x) (← evalO K.X.G fr y)) >>= fun r => pure (Plan.val r)) = _
      rw [okBind (trO_ok h ha), okBind (trO_ok h hb), e1, e2, indexV, okBind (show asInt (.int kk (.ofNat m)) = .ok (.ofNat m) from rfl), okBind hi, hu]
      dsimp only
      rw [okBind (show inside (.ofNat m) s.length = .ok m by simp only [inside, blt_t e5]), e4]; rfl
    · cases ht
  · cases ht
theorem trNil_ok (hX : KTOk X K) (h : FR fr K.n t) {x : Operand} {tk : Tk} (ht : trV1 vNil X.G x = some tk) : TkOk K fr t (.nilCheck x) tk := by
  obtain ⟨a, ha, rfl⟩ := trV1_some ht
  intro k hk
  rw [hX.G] at ha
  rcases adrK_t hk with ⟨c, e, hk⟩ | ⟨i, o, e, hk⟩ <;> refine ⟨_, ?_, hk⟩ <;>
    exact (congrArg (· >>= fun r => pure (Plan.val r)) (okBind (trO_ok h ha))).trans (by rw [e]; rfl)
theorem trExtract_ok (hX : KTOk X K) (h : FR fr K.n t) {x : Operand} {i : Nat} {tk : Tk} (ht : trV1 (vExtract i) X.G x = some tk) : TkOk K fr t (.extract x i) tk := by
  obtain ⟨a, ha, rfl⟩ := trV1_some ht
  intro k hk
  rw [hX.G] at ha
  obtain ⟨c, e, hk⟩ := tupK_t hk
  obtain ⟨v, e1, _, hk⟩ := nthK_t hk
  refine ⟨v, ?_, hk⟩
  exact (congrArg (· >>= fun r => pure (Plan.val r)) (okBind (trO_ok h ha))).trans (by rw [e]; dsimp only; rw [e1]; rfl)
theorem trLoad_ok (hX : KTOk X K) (h : FR fr K.n t) {ty : TypeId} {x : Operand} {tk : Tk} (ht : trLoad X ty x = some tk) : TkOk K fr t (.load ty x) tk := by
  unfold trLoad at ht
  split at ht
  · rename_i i a hi ha
    cases ht
    rw [hX.G] at ha
    rw [hX.T] at hi
    intro st k hk
    have e0 : plan K.X.T K.X.prim K.X.imm K.X.G fr (.load ty x) = loadP i (getO a t) := by
      show (do loadP (← ti K.X.T ty) (← evalO K.X.G fr x)) = _
      rw [okBind hi, okBind (trO_ok h ha)]
    rw [run, e0]
    rcases adrK_t hk with ⟨c, e, hk⟩ | ⟨id, off, e, hk⟩
    · obtain ⟨v, e1, hk⟩ := takeK_t hk
      exact ⟨v, _, by rw [e]; simp only [loadP]; rw [okBind e1]; rfl, hk⟩
    · obtain ⟨o, e1, hk⟩ := objK_t hk
      obtain ⟨ty', cs, rfl, hk⟩ := cellsK_t hk
      obtain ⟨v, e2, hk⟩ := takeK_t hk
      rw [dropK_eq] at e2
      refine ⟨v, _, ?_, hk⟩
      rw [e]
      show runPlan K.X.C st (readP id _) = _
      simp only [readP, runPlan]
      rw [okBind e1, okBind (a := (v, none)) (by simp only [cellsOf]; show (do pure (← takeCells i.size i.agg (cs.drop off), none)) = _; rw [okBind e2]; rfl)]
      rfl
  · cases ht
theorem runRun {X : Cx} {fr : Fr} {st : St} {o : Op} {k : AV → Fx → Bool} (h : (match run X fr st o with | .ok (v, x) => k v x | .error _ => false) = true) : ∃ v x, run X fr st o = .ok (v, x) ∧ k v x = true := by
  split at h
  · rename_i v x e; exact ⟨v, x, e, h⟩
  · cases h
theorem opRun_ok (h : FR fr K.n t) {o : Oper} {op : Op} (ho : o.op = op) {st : St} {k : AV → Fx → Bool} (hk : opRunX o K t st k = true) : ∃ v x, run K.X fr st op = .ok (v, x) ∧ k v x = true := by
  have := runRun (X := K.X) (fr := toFr K.n t) (o := o.op) hk
  rw [ho] at this
  unfold run at this ⊢
  rw [plan_alike (h.alike (FR.toFr h.le))]
  exact this
theorem plan_store {ty : TypeId} {x y : Operand} {i : TI} {a b : AV} (hi : ti K.X.T ty = .ok i) (ha : evalO K.X.G fr x = .ok a) (hb : evalO K.X.G fr y = .ok b) (hn : ∀ k n o, a ≠ .gp k n o) : plan K.X.T K.X.prim K.X.imm K.X.G fr (.store ty x y) = storeP i a b := by
  show (do
    let i ← ti K.X.T ty
    match ← evalO K.X.G fr x with
    | .gp k m off => do gpStoreP i k m off (← evalO K.X.G fr y)
    | a => do storeP i a (← evalO K.X.G fr y)) = _
  rw [okBind hi, okBind ha]
  cases a <;> first | exact absurd rfl (hn _ _ _) | exact okBind hb
theorem trStore_ok (hX : KTOk X K) (h : FR fr K.n t) {o : Oper} {ty : TypeId} {x y : Operand} {tk : Tk} (ho : o.op = .store ty x y) (ht : trStore X o ty x y = some tk) : TkOk K fr t (.store ty x y) tk := by
  unfold trStore at ht
  split at ht
  · rename_i i a b hi ha hb
    split at ht
    · rename_i hc
      cases ht
      rw [hX.G] at ha hb
      rw [hX.T] at hi
      simp only [Bool.and_eq_true, Bool.not_eq_true'] at hc
      have hs := Nat.eq_of_beq_eq_true hc.1
      intro st k hk
      rcases gpK_t hk with ⟨_, _, _, _, hk⟩ | ⟨hng, hk⟩
      · exact opRun_ok h ho hk
      rw [run, plan_store hi (trO_ok h ha) (trO_ok h hb) hng]
      rcases adrK_t hk with ⟨c, e, hk⟩ | ⟨id, off, e, hk⟩
      · cases hk
      · obtain ⟨e1, hk⟩ := andK_t hk
        obtain ⟨ob, e2, hk⟩ := objK_t hk
        obtain ⟨ty', cs, rfl, hk⟩ := cellsK_t hk
        obtain ⟨e3, hk⟩ := andK_t hk
        obtain ⟨e4, hk⟩ := andK_t hk
        have e3 := shortK_f (notK_f e3)
        rw [setK_eq _ e3] at hk
        refine ⟨undef, _, ?_, hk⟩
        rw [e]
        simp only [storeP, one_cells e1, ones, e1, hs, List.length_cons, List.length_nil, Bool.and_true]
        show runPlan K.X.C st (.obj id _) = _
        simp only [runPlan]
        rw [okBind e2, okBind (a := (undef, some (.cells ty' (splice cs off [getO b t])))) (by
          show (match (off + 1).ble cs.length with | true => _ | false => _) = _
          rw [Nat.ble_eq_true_of_le (show off + 1 ≤ cs.length from e3)]; rfl)]
        show (do let d ← didOf st id _; pure _) = _
        rw [okBind (a := Did.wrote id _) (by
          simp only [didOf]
          cases hb : id.blt st.ro with
          | true => exact absurd (t_blt hb) (by have := Nat.le_of_ble_eq_true e4; omega)
          | false => rfl)]
        rfl
    · rename_i hc
      split at ht
      · rename_i hagg
        cases ht
        rw [hX.G] at ha hb
        rw [hX.T] at hi
        intro st k hk
        rcases gpK_t hk with ⟨_, _, _, _, hk⟩ | ⟨hng, hk⟩
        · exact opRun_ok h ho hk
        rw [run, plan_store hi (trO_ok h ha) (trO_ok h hb) hng]
        rcases adrK_t hk with ⟨c, e, hk⟩ | ⟨id, off, e, hk⟩
        · cases hk
        · obtain ⟨c, e', hk⟩ := aggK_t hk
          obtain ⟨e1, hk⟩ := andK_t hk
          obtain ⟨e1', hk⟩ := andK_t hk
          obtain ⟨ob, e2, hk⟩ := objK_t hk
          obtain ⟨ty', cs, rfl, hk⟩ := cellsK_t hk
          obtain ⟨e4, hk⟩ := andK_t hk
          have hro : didOf st id (some (.cells ty' (splice cs off c))) = .ok (.wrote id (.cells ty' (splice cs off c))) := by
            simp only [didOf]
            cases hb : id.blt st.ro with
            | true => exact absurd (t_blt hb) (by have := Nat.le_of_ble_eq_true e4; omega)
            | false => rfl
          have key : off + c.length ≤ cs.length ∧ k undef ⟨[id], .wrote id (.cells ty' (splice cs off c))⟩ = true := by
            cases hw : (Nat.beq off 0 && Nat.beq cs.length c.length) with
            | true =>
              rw [hw] at hk
              simp only [Bool.and_eq_true] at hw
              have w1 := Nat.eq_of_beq_eq_true hw.1
              have w2 := Nat.eq_of_beq_eq_true hw.2
              subst w1
              have : splice cs 0 c = c := by
                simp only [splice, List.take_zero, List.nil_append, Nat.zero_add]
                rw [List.drop_eq_nil_of_le (by omega), List.append_nil]
              rw [this]
              exact ⟨by omega, hk⟩
            | false =>
              rw [hw] at hk
              obtain ⟨w1, w2⟩ := andK_t hk
              exact ⟨Nat.le_of_ble_eq_true w1, w2⟩
          refine ⟨undef, _, ?_, key.2⟩
          rw [e, e']
          simp only [storeP, AV.cells, e1, e1', Bool.and_self]
          show runPlan K.X.C st (.obj id _) = _
          simp only [runPlan]
          rw [okBind e2, okBind (a := (undef, some (.cells ty' (splice cs off c)))) (by
            show (match (off + c.length).ble cs.length with | true => _ | false => _) = _
            rw [Nat.ble_eq_true_of_le key.1]; rfl)]
          show (do let d ← didOf st id _; pure _) = _
          rw [okBind hro]
          rfl
      · cases ht
  · cases ht
theorem trPick_ok (hX : KTOk X K) (h : FR fr K.n t) {c x y : Operand} {tk : Tk} (ht : trPick X c x y = some tk) : TkOk K fr t (.pick c x y) tk := by
  unfold trPick at ht
  split at ht
  · rename_i a b d ha hb hd
    cases ht
    rw [hX.G] at ha hb hd
    intro k hk
    obtain ⟨q, e1, hk⟩ := boolK_t hk
    refine ⟨_, ?_, hk⟩
    show ((do
      match ← asBool (← evalO K.X.G fr c) with
      | true => evalO K.X.G fr x
      | false => evalO K.X.G fr y) >>= fun r => pure (Plan.val r)) = _
    rw [okBind (trO_ok h ha), e1]
    cases q
    · show (evalO K.X.G fr y >>= fun r => pure (Plan.val r)) = _
      rw [okBind (trO_ok h hd)]; rfl
    · show (evalO K.X.G fr x >>= fun r => pure (Plan.val r)) = _
      rw [okBind (trO_ok h hb)]; rfl
  · cases ht
theorem constParts_ok {G : Nat → Option (List AV)} {fr : Fr} : ∀ {l : List (Nat × Operand)} {ps : List (Nat × AV)}, constParts l = some ps → evalParts G fr l = .ok ps
  | [], ps, h => by cases h; rfl
  | (i, x) :: l, ps, h => by
    simp only [constParts] at h
    split at h
    · split at h
      · rename_i a ha
        split at h
        · rename_i l' hl
          cases h
          simp only [evalParts, evalO, ha, constParts_ok hl]; rfl
        · cases h
      · cases h
    · cases h
theorem trBuildSlice_ok (hX : KTOk X K) {ty : TypeId} {len : Nat} {parts : Array (Nat × Operand)} {tk : Tk} (ht : trBuildSlice X ty len parts = some tk) : TkOk K fr t (.buildSlice ty len parts) tk := by
  unfold trBuildSlice at ht
  split at ht
  · rename_i ps hps
    cases ht
    rw [hX.T]
    intro k hk
    cases hr : buildSlice K.X.T ty len ps with
    | error e =>
      unfold vRes at hk
      rw [hr] at hk; cases hk
    | ok v =>
      unfold vRes at hk
      rw [hr] at hk
      refine ⟨v, ?_, hk⟩
      show ((do buildSlice K.X.T ty len (← evalParts K.X.G fr parts.toList)) >>= fun r => pure (Plan.val r)) = _
      rw [okBind (constParts_ok hps), hr]; rfl
  · cases ht
theorem trOptO_ok {G : Nat → Option (List AV)} {n : Nat} (h : FR fr n t) {x : Option Operand} {k : Option KO} (hk : trOptO G x = some k) : evalOpt G fr x = .ok (k.map fun k => getO k t) := by
  cases x with
  | none => cases hk; rfl
  | some x =>
    simp only [trOptO] at hk
    split at hk
    · rename_i a ha
      cases hk
      simp only [evalOpt]
      rw [okBind (trO_ok h ha)]; rfl
    · cases hk
theorem trSlice_ok (hX : KTOk X K) (h : FR fr K.n t) {ty : TypeId} {x : Operand} {lo hi mx : Option Operand} {tk : Tk} (ht : trSlice X ty x lo hi mx = some tk) : TkOk K fr t (.slice ty x lo hi mx) tk := by
  unfold trSlice at ht
  split at ht
  · cases ht
  · split at ht
    · rename_i i hi'
      split at ht
      · rename_i hu
        split at ht
        · rename_i lo' hi'' a hlo hhi ha
          cases ht
          rw [hX.G] at ha hlo hhi
          rw [hX.T] at hi'
          intro k hk
          obtain ⟨s, e1, hk⟩ := strK_t hk
          have e0 : plan K.X.T K.X.prim K.X.imm K.X.G fr (.slice ty x lo hi none) = ((do sliceV K.X.T ty (.str s) (lo'.map fun k => getO k t) (hi''.map fun k => getO k t) none) >>= fun r => pure (Plan.val r)) := by
            show ((do sliceV K.X.T ty (← evalO K.X.G fr x) (← evalOpt K.X.G fr lo) (← evalOpt K.X.G fr hi) (← evalOpt K.X.G fr none)) >>= fun r => pure (Plan.val r)) = _
            rw [okBind (trO_ok h ha), okBind (trOptO_ok h hlo), okBind (trOptO_ok h hhi), e1]; rfl
          have e2 : ∀ lo hi : Option AV, ∀ (m n : Nat) (lz hz : Option Int), optInt lo = .ok lz → optInt hi = .ok hz → hiOf hz s.length s.length = .ok n → loOf lz n = .ok m → sliceV K.X.T ty (.str s) lo hi none = .ok (.str ((s.take n).drop m)) := by
            intro lo hi m n lz hz q1 q2 q3 q4
            rw [sliceV, okBind q1, okBind q2, okBind (show optInt none = .ok none from rfl), okBind hi', hu]
            dsimp only
            rw [okBind q3, okBind q4]; rfl
          rw [e0]
          have up : ∀ m n, Nat.ble m n = true → upto (.ofNat m) n = .ok m := fun m n q => by simp only [upto, q]
          cases hi'' with
          | none =>
            cases lo' with
            | none =>
              refine ⟨_, ?_, hk⟩
              show (sliceV K.X.T ty (.str s) none none none >>= fun r => pure (Plan.val r)) = _
              rw [e2 none none 0 s.length none none rfl rfl rfl rfl]
              show Except.ok (Plan.val (.str ((s.take s.length).drop 0))) = _
              rw [List.take_length, List.drop_zero]
            | some lo' =>
              obtain ⟨kk, m, q1, hk⟩ := natK_t hk
              obtain ⟨q2, hk⟩ := andK_t hk
              rw [dropK_eq] at hk
              refine ⟨_, ?_, hk⟩
              show (sliceV K.X.T ty (.str s) (some (getO lo' t)) none none >>= fun r => pure (Plan.val r)) = _
              rw [e2 (some _) none m s.length (some (.ofNat m)) none (by simp only [optInt, q1]; rfl) rfl rfl (up _ _ q2)]
              show Except.ok (Plan.val (.str ((s.take s.length).drop m))) = _
              rw [List.take_length]
          | some hi'' =>
            obtain ⟨kk, n, q1, hk⟩ := natK_t hk
            obtain ⟨q2, hk⟩ := andK_t hk
            cases lo' with
            | none =>
              rw [takeB_eq] at hk
              refine ⟨_, ?_, hk⟩
              show (sliceV K.X.T ty (.str s) none (some (getO hi'' t)) none >>= fun r => pure (Plan.val r)) = _
              rw [e2 none (some _) 0 n none (some (.ofNat n)) rfl (by simp only [optInt, q1]; rfl) (up _ _ q2) rfl]
              rfl
            | some lo' =>
              obtain ⟨kk', m, q3, hk⟩ := natK_t hk
              obtain ⟨q4, hk⟩ := andK_t hk
              rw [dropK_eq, takeB_eq] at hk
              refine ⟨_, ?_, hk⟩
              show (sliceV K.X.T ty (.str s) (some (getO lo' t)) (some (getO hi'' t)) none >>= fun r => pure (Plan.val r)) = _
              rw [e2 (some _) (some _) m n (some (.ofNat m)) (some (.ofNat n)) (by simp only [optInt, q3]; rfl) (by simp only [optInt, q1]; rfl) (up _ _ q2) (up _ _ q4)]
              rfl
        · cases ht
      · cases ht
    · cases ht
theorem trLen_ok (hX : KTOk X K) (h : FR fr K.n t) {ty : TypeId} {l : List TypeId} {c : Call} {x : Operand} {tk : Tk} (hc : c.callee = .builtin .len) (h1 : c.argTypes.toList = ty :: l) (h2 : c.args.toList = [x])
    (ht : trLen X ty x = some tk) : TkOk K fr t (.call c) tk := by
  unfold trLen at ht
  split at ht
  · rename_i i hi
    rw [hX.T] at hi
    have e0 : ∀ a, trO K.X.G x = some a → plan K.X.T K.X.prim K.X.imm K.X.G fr (.call c) = lenP K.X.T ty (getO a t) := by
      intro a ha
      show (do let args ← evalL K.X.G fr c.args.toList; _) = _
      rw [okBind (a := [getO a t]) (by rw [h2]; simp only [evalL]; rw [okBind (trO_ok h ha)]; rfl), hc]
      dsimp only
      rw [h1]
      rfl
    split at ht
    · rename_i hu
      obtain ⟨a, ha, rfl⟩ := trV1_some ht
      intro k hk
      rw [hX.G] at ha
      obtain ⟨s, e1, hk⟩ := strK_t hk
      rw [lenB_eq] at hk
      refine ⟨_, ?_, hk⟩
      rw [e0 a ha, e1, lenP, okBind hi, hu]
      rfl
    · rename_i e hu
      obtain ⟨a, ha, rfl⟩ := trV1_some ht
      intro k hk
      rw [hX.G] at ha
      rcases slK_t hk with ⟨e1, hk⟩ | ⟨z, es, p, e1, hk⟩ | ⟨id, o, z, n, c, e1, hk⟩ | ⟨id, z, n, e1, hk⟩ <;> refine ⟨_, ?_, hk⟩ <;> rw [e0 a ha, e1, lenP, okBind hi, hu] <;> rfl
    · cases ht
  · cases ht
theorem trAlloc_ok (hX : KTOk X K) {ty : TypeId} {tk : Tk} (ht : trAlloc X ty = some tk) : TkOk K fr t (.alloc ty) tk := by
  unfold trAlloc at ht
  split at ht
  · rename_i i hi
    cases ht
    rw [hX.T] at hi
    intro st k hk
    refine ⟨.mp st.h 0, ⟨[], .made st.h (.cells ty i.zero)⟩, ?_, ?_⟩
    · rw [run]
      show ((do let i ← ti K.X.T ty; pure (Plan.new (.cells ty i.zero) fun k => .mp k 0)) >>= _) = _
      rw [okBind hi]; rfl
    · obtain ⟨m, ro, objs⟩ := st
      exact hk
  · cases ht
/-- Calls. -/
theorem call_ok (hK : KGood K) {g : FuncId} {vs : List AV} {st : St} {k : AV → Fx → Bool} (h : callK (K.X.C.full g) (K.X.C.isLook g) g vs K st k = true) :
    ∃ v x, runPlan K.X.C st (.call g vs) = .ok (v, x) ∧ k v x = true := by
  simp only [runPlan]
  unfold callK at h
  rw [stripsK_eq, baresK_eq, notK_eq] at h
  cases e : (bares (vs.map strip) && !K.X.C.full g) with
  | true =>
    have e2 : andK (bares (vs.map strip)) (!K.X.C.full g) = true := by
      simp only [Bool.and_eq_true] at e
      rw [e.1, e.2]; rfl
    rw [e2] at h
    obtain ⟨v, h1, h2⟩ := hK.bare _ _ _ h
    exact ⟨v, _, by dsimp only; rw [okBind h1]; rfl, h2⟩
  | false =>
    have e2 : andK (bares (vs.map strip)) (!K.X.C.full g) = false := by
      cases e3 : bares (vs.map strip) with
      | true => rw [e3] at e; exact e
      | false => rfl
    rw [e2] at h
    cases e' : K.X.C.isLook g with
    | true =>
      rw [e'] at h
      obtain ⟨v, h1, h2⟩ := hK.look _ _ _ _ h
      exact ⟨v, _, by dsimp only; rw [okBind h1]; rfl, h2⟩
    | false =>
      rw [e'] at h
      obtain ⟨v, s, h1, h2⟩ := hK.wide _ _ _ _ h
      exact ⟨v, _, by dsimp only; rw [okBind h1]; rfl, h2⟩
theorem trCall_ok (hX : KTOk X K) (hK : KGood K) (h : FR fr K.n t) {o : Oper} {c : Call} (ho : o.op = .call c) {tk : Tk} (ht : trCall X o c = some tk) : TkOk K fr t (.call c) tk := by
  unfold trCall at ht
  split at ht
  · rename_i b hb
    split at ht
    · rename_i ty l x h1 h2
      exact trLen_ok hX h hb h1 h2 ht
    · cases ht
  · rename_i f hc
    have e0 : ∀ a as, trO K.X.G f = some a → trOs K.X.G c.args.toList = some as → plan K.X.T K.X.prim K.X.imm K.X.G fr (.call c) = (match getO a t with
        | .fn (.func g) first cap => match K.X.prim g with
          | some q => primP q (first ++ getOs as t ++ cap)
          | none => pure (.call g (first ++ getOs as t ++ cap))
        | _ => .error "call: what?") := by
      intro a as ha has
      show (do let args ← evalL K.X.G fr c.args.toList; _) = _
      rw [okBind (trOs_ok h has), hc]
      dsimp only
      rw [okBind (trO_ok h ha)]
      rfl
    split at ht
    · rename_i a as ha has
      rw [hX.G] at ha has
      split at ht
      · rename_i v
        split at ht
        · split at ht
          · rename_i g
            split at ht
            · split at ht
              · rename_i hp
                cases ht
                rw [hX.prim] at hp
                intro st k hk
                rw [run, e0 _ _ ha has]
                simp only [getO, hp, List.nil_append, List.append_nil]
                simp only [opCallX, hX.full, hX.isLook] at hk
                exact call_ok hK hk
              · cases ht
            · cases ht
          · cases ht
        · cases ht
      · rename_i p
        cases ht
        intro st k hk
        unfold opDynX at hk
        split at hk
        · rename_i g first cap e
          split at hk
          · rename_i q hq
            exact opRun_ok h ho hk
          · rename_i hq
            rw [run, e0 _ _ ha has, e]
            dsimp only
            rw [hq]
            exact call_ok hK hk
        · cases hk
    · cases ht
  · cases ht
theorem trBase_ok (hX : KTOk X K) (hK : KGood K) (h : FR fr K.n t) {o : Oper} {tk : Tk} (ht : trBase X o = some tk) : TkOk K fr t o.op tk := by
  unfold trBase at ht
  split at ht
  · rename_i x ho; exact trMv_ok hX h (.inl ho) ht
  · rename_i x ho; exact trMv_ok hX h (.inr ho) ht
  · rename_i ho; rw [ho]; exact trBin_ok hX h ht
  · rename_i ho; rw [ho]; exact trNot_ok hX h ht
  · rename_i ho; rw [ho]; exact trPick_ok hX h ht
  · rename_i ho; rw [ho]; exact trBuildSlice_ok hX ht
  · rename_i ho; rw [ho]; exact trSlice_ok hX h ht
  · rename_i ho; rw [ho]; exact trConv_ok hX h ht
  · rename_i ho; rw [ho]; exact trIface_ok hX h ht
  · rename_i ho; rw [ho]; exact trFieldAddr_ok hX h ht
  · rename_i ho; rw [ho]; exact trField_ok hX h ht
  · rename_i ho; rw [ho]; exact trIndexAddr_ok hX h ht
  · rename_i ho; rw [ho]; exact trIndex_ok hX h ht
  · rename_i ho; rw [ho]; exact trNil_ok hX h ht
  · rename_i ho; rw [ho]; exact trExtract_ok hX h ht
  · rename_i ho; rw [ho]; exact trLoad_ok hX h ht
  · rename_i ho; rw [ho]; exact trStore_ok hX h ho ht
  · rename_i ho; rw [ho]; exact trAlloc_ok hX ht
  · rename_i c ho; rw [ho]; exact trCall_ok hX hK h ho ht
  · cases ht
end Go.VM
