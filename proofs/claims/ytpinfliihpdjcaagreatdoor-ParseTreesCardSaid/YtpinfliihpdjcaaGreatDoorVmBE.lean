/-
  A part of the proof.
-/
import Derived.Test.YtpinfliihpdjcaaGreatDoorVmBB
import Derived.Below
import Derived.Lib.Repeat
import Derived.Lib.RuneCount
import Derived.Lib.ValidU
set_option linter.all false
namespace Go.VM
open Go.RowKit
section
variable {P:Program} {T:TT} {G:Nat->Option (List AV)} {A:Nat->Prop} {g:Gh} {st:St} {w:World}
theorem Inv.below {w':World} (h:Inv T A g st w) (hB:Below w.heap.size w w'):Inv T A g st w':=h.world hB.size fun b a=>hB.block b a
theorem Kp.below {w':World} (h:Inv T A g st w) (hB:Below w.heap.size w w'):Kp A g w g w':=
 ⟨hB.size,fun b a=>hB.block b (Nat.lt_of_not_le fun k=>a (h.up b k)),fun _ _ _=>rfl,fun _ _=>rfl,Le.refl g,hB.os,hB.tape,hB.output⟩
theorem oO {f:FuncId} {F:List AV->cl AV} (a: ∀args w,(callFunc f args).run P w= .ok (.enter f args) w)
  (h: ∀args v,F args= .ok v-> ∀A g st w xs,GR g G->RL g args xs->Inv T A g st w->Calls P f xs.toArray w fun e w'=>(∃x,e= .returned x/\R g v x)/\Below w.heap.size w w'):fm P T G f (.lib F):=by
 intro C args p v l st A g w xs hG b c d hi;unfold gT at b;split at b
 all_goals first | (rename_i i;cases i;done) | skip
 all_goals simp only [Prim.lib.injEq,reduceCtorEq] at *
 all_goals first | contradiction | skip
 all_goals try subst_vars
 all_goals
  split at b
  .rename_i u j;cases b;obtain ⟨rfl,rfl⟩:=mC c;refine .inr ⟨a _ _,(h _ _ j A g st w xs hG d hi).mono ?_⟩;rintro e w' ⟨⟨x,rfl,k⟩,hB⟩;exact ⟨x,rfl,g,k,hi.below hB,Kp.below hi hB⟩
  .cases b
def iY:List AV->cl AV
 | [.str s]=>match s.length.ble 9223372036854775807 with
  | true=> .ok (.bool (Lib.validD s))
  | false=> .error "valid: too long"
 | _=> .error "valid"
theorem tM {s:List UInt8} {x:Value} (h:R g (.str s) x):x= .string ⟨s.toArray⟩:=by simpa only [R] using h
theorem HL {k:IntKind} {n:Int} {x:Value} (h:R g (.int k n) x):x= .int k n:=by simpa only [R] using h
theorem Km (s:List UInt8):R g (.str s) (.string ⟨s.toArray⟩):=by simp only [R]
theorem uu (k:IntKind) (n:Int):R g (.int k n) (.int k n):=by simp only [R]
theorem Ip (b:Bool):R g (.bool b) (.bool b):=by simp only [R]
end
end Go.VM
