/-
  (A part of the proof: LibP.)
-/
import Derived.Test.YtgecmbapkplklaaGreatDoorVmAA
import Derived.Test.YtgecmbapkplklaaGreatDoorVmBA
import Derived.Below
import Derived.Lib.Repeat
import Derived.Lib.RuneCount
import Derived.Lib.ValidU
set_option linter.unusedSimpArgs false
namespace Go.VM
open Go.RowKit
section
variable {P:Program} {T:TT} {G:Nat->Option (List AV)} {A:Nat->Prop} {g:Gh} {st:St} {w:World}
theorem Inv.below {w':World} (h:Inv T A g st w) (a:Below w.heap.size w w'):Inv T A g st w':=h.world a.size fun b hb=>a.block b hb
theorem Kp.below {w':World} (h:Inv T A g st w) (a:Below w.heap.size w w'):Kp A g w g w':=
 ⟨a.size,fun b hb=>a.block b (Nat.lt_of_not_le fun k=>hb (h.up b k)),fun _ _ _=>rfl,fun _ _=>rfl,Le.refl g,a.os,a.tape,a.output⟩
theorem ud {f:FuncId} {F:List AV->db AV} (a: ∀args w,(callFunc f args).run P w= .ok (.enter f args) w)
  (h: ∀args v,F args= .ok v-> ∀A g st w xs,GR g G->RL g args xs->Inv T A g st w->Calls P f xs.toArray w fun e w'=>(∃x,e= .returned x/\R g v x)/\Below w.heap.size w w'):fH P T G f (.lib F):=by
 intro C args p v j st A g w xs c hp hr hx hi;unfold fO at hp;split at hp
 all_goals first | (rename_i d;cases d;done) | skip
 all_goals simp only [Prim.lib.injEq,reduceCtorEq] at *
 all_goals first | contradiction | skip
 all_goals try subst_vars
 all_goals
  split at hp
  .rename_i u hu;cases hp;obtain ⟨rfl,rfl⟩:=qK hr;refine .inr ⟨a _ _,(h _ _ hu A g st w xs c hx hi).mono ?_⟩;rintro e w' ⟨⟨x,rfl,i⟩,b⟩;exact ⟨x,rfl,g,i,hi.below b,Kp.below hi b⟩
  .cases hp
def lV:List AV->db AV
 | [.str s]=>match s.length.ble 9223372036854775807 with
  | true=> .ok (.bool (Lib.validD s))
  | false=> .error "valid: too long"
 | _=> .error "valid"
theorem zh {s:List UInt8} {x:Value} (h:R g (.str s) x):x= .string ⟨s.toArray⟩:=by simpa only [R] using h
theorem QT {k:IntKind} {n:Int} {x:Value} (h:R g (.int k n) x):x= .int k n:=by simpa only [R] using h
theorem SJ (s:List UInt8):R g (.str s) (.string ⟨s.toArray⟩):=by simp only [R]
theorem Ba (k:IntKind) (n:Int):R g (.int k n) (.int k n):=by simp only [R]
theorem QG (b:Bool):R g (.bool b) (.bool b):=by simp only [R]
end
end Go.VM
