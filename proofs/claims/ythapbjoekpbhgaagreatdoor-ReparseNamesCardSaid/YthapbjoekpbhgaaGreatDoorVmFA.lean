/-
  A part of the proof.
-/
import Derived.Test.YthapbjoekpbhgaaGreatDoorVmEJ
set_option maxRecDepth 1000000
set_option maxHeartbeats 0
namespace Go.Proofs.YthapbjoekpbhgaaGreatDoor.Vm
open Go Go.VM Go.Proofs
/-- The edit is looked at first. -/
def findEd (t x : AV) : List (List AV × AV) → Option AV
  | [] => none
  | (a, v) :: l => match a with
    | [t', x'] => match sameAV 1000 x' x with
      | true => match sameAV 1000 t' t with
        | true => some v
        | false => findEd t x l
      | false => findEd t x l
    | _ => findEd t x l
theorem findEd_mem {t x v : AV} : ∀ {l : List (List AV × AV)}, findEd t x l = some v → ([t, x], v) ∈ l
  | [], h => by cases h
  | (a, u) :: l, h => by
    unfold findEd at h
    split at h
    · split at h
      · rename_i e1
        split at h
        · rename_i e2
          cases h
          rw [sameAV_eq 1000 _ _ e1, sameAV_eq 1000 _ _ e2]
          exact List.mem_cons_self
        · exact List.mem_cons_of_mem _ (findEd_mem h)
      · exact List.mem_cons_of_mem _ (findEd_mem h)
    · exact List.mem_cons_of_mem _ (findEd_mem h)
noncomputable def editR2 : List AV → Option AV := fun args => match editR args with
  | some v => some v
  | none => match args with
    | [t, x] => findEd t x el3_7
    | _ => none
noncomputable def vRf (f : FuncId) : Option (List AV → Option AV) := match f.beq 7 with
  | true => some editR2
  | false => vR f
noncomputable def vE4 : Env := { vE3 with rule := vRf }
theorem vRf_ok : ∀ f r args v, vRf f = some r → r args = some v → BareOk Tryz.prog vE.T vE.G f args v := by
  intro f r args v h1 h2
  unfold vRf at h1
  split at h1
  · rename_i e
    cases h1
    rw [Nat.eq_of_beq_eq_true e]
    unfold editR2 at h2
    split at h2
    · rename_i hv
      cases h2
      exact editR_ok hv
    · split at h2
      · exact ek3_7 _ (findEd_mem h2)
      · cases h2
  · exact vR_ok f r args v h1 h2
theorem vE4_ok : EnvOk Tryz.prog vE4 := ⟨vE3_ok.T, vE3_ok.F, vE3_ok.prim, vE3_ok.mixed, vE3_ok.memo, vRf_ok, vE3_ok.wrule⟩
end Go.Proofs.YthapbjoekpbhgaaGreatDoor.Vm
