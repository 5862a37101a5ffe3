/-
  A part of the proof.
-/
import Derived.Test.YtkpeicabocpbkaaGreatDoorVmBA
import Derived.Below
import Derived.Lib.Repeat
import Derived.Lib.RuneCount
import Derived.Lib.ValidU
set_option linter.all false
namespace Go.VM
open Go.RowKit
section
variable {P:Program} {T:TT} {G:Nat->Oq LA} {A:Nat->Prop} {g:Gh} {st:St} {w:World}
theorem Inv.below {w':World} (h:Inv T A g st w) (a:Below w.heap.size w w'):Inv T A g st w':=h.world a.size fun b c=>a.block b c
theorem Kp.below {w':World} (h:Inv T A g st w) (a:Below w.heap.size w w'):Kp A g w g w':=
 ⟨a.size,fun b c=>a.block b (Nat.lt_of_not_le fun k=>c (h.up b k)),fun _ _ _=>rfl,fun _ _=>rfl,Le.refl g,a.os,a.tape,a.output⟩
theorem lg {f:FuncId} {F:LA->cY AV} (a: ∀args w,(callFunc f args).run P w= .ok (.enter f args) w)
  (h: ∀args v,F args= .ok v-> ∀A g st w xs,GR g G->RL g args xs->Inv T A g st w->Calls P f xs.toArray w fun e w'=>(∃x,e= .returned x/\R g v x)/\Below w.heap.size w w'):dD P T G f (.lib F):=by
 intro C args p v l st A g w xs d b i hx hi;unfold dy at b;split at b
 all_goals first | (rename_i j;cases j;done) | skip
 all_goals simp only [Prim.lib.injEq,reduceCtorEq] at *
 all_goals first | contradiction | skip
 all_goals try subst_vars
 all_goals
  split at b
  .rename_i u k;cases b;obtain ⟨rfl,rfl⟩:=rz i;refine .inr ⟨a _ _,(h _ _ k A g st w xs d hx hi).mono ?_⟩;rintro e w' ⟨⟨x,rfl,hR⟩,c⟩;exact ⟨x,rfl,g,hR,hi.below c,Kp.below hi c⟩
  .cases b
def kE:LA->cY AV
 | [.str s,.int .i64 n]=>match n with
  | .ofNat k=>match (s.length * k).ble 140737488355328&&k.ble 9223372036854775807 with
   | true=> .ok (.str (Lib.repeatL s k))
   | false=> .error "repeat: too long"
  | .negSucc _=> .error "repeat: below 0"
 | _=> .error "repeat"
def jU:LA->cY AV
 | [.str s]=>match s.length.ble 9223372036854775807 with
  | true=> .ok (.bool (Lib.validD s))
  | false=> .error "valid: too long"
 | _=> .error "valid"
def iX:LA->cY AV
 | [.str s]=>match s.length.blt 9223372036854775807 with
  | true=> .ok (.int .i64 (Lib.runeCountL s))
  | false=> .error "runes: too long"
 | _=> .error "runes"
def fY:LA->cY AV
 | [.str s,.str [c]]=> .ok (.bool (decide (0<=Lib.indexByte s c)))
 | _=> .error "contains"
theorem mB {s:LB} {x:Value} (h:R g (.str s) x):x= .string ⟨s.toArray⟩:=by simpa only [R] using h
theorem MW {k:IntKind} {n:Int} {x:Value} (h:R g (.int k n) x):x= .int k n:=by simpa only [R] using h
theorem RY (s:LB):R g (.str s) (.string ⟨s.toArray⟩):=by simp only [R]
theorem Bt (k:IntKind) (n:Int):R g (.int k n) (.int k n):=by simp only [R]
theorem OB (b:Bool):R g (.bool b) (.bool b):=by simp only [R]
theorem FA {f:FuncId} (b: ∀args w,(callFunc f args).run P w= .ok (.enter f args) w)
  (h: ∀(s:ByteArray) (c:Nat) (w:World),c<=9223372036854775807->s.size * c<=140737488355328->Calls P f #[.string s,.int .i64 c] w fun e w'=>e= .returned (.string ⟨(Lib.repeatL s.data.toList c).toArray⟩)/\Below w.heap.size w w'):dD P T G f (.lib kE):=by
 refine lg b fun args v a A g st w xs _ hx _=> ?_;unfold kE at a;split at a
 .rename_i s n;cases n with
  | ofNat k=>
   dsimp only at a;split at a
   .rename_i d;cases a;simp only [aaf] at d;obtain ⟨x,y,rfl,h1,i⟩:=Xz hx;rw [mB h1,MW i];refine (h ⟨s.toArray⟩ k w (aaq d.2) (by simpa [ByteArray.size] using aaq d.1)).mono ?_;rintro e w' ⟨rfl,j⟩;exact ⟨⟨_,rfl,RY _⟩,j⟩
   .cases a
  | negSucc k=>cases a
 .cases a
theorem Iy {f:FuncId} (a: ∀args w,(callFunc f args).run P w= .ok (.enter f args) w)
  (h: ∀(s:ByteArray) (w:World),s.size < 9223372036854775807->Calls P f #[.string s] w fun e w'=>e= .returned (.int .i64 (Lib.runeCount s))/\ ∃pos,w'=w.iter s pos):dD P T G f (.lib iX):=by
 refine lg a fun args v b A g st w xs _ hx _=> ?_;unfold iX at b;split at b
 .rename_i s;split at b
  .rename_i c;cases b;obtain ⟨x,rfl,h1⟩:=VE hx;rw [mB h1];refine (h ⟨s.toArray⟩ w (by simpa [ByteArray.size] using cS.1 c)).mono ?_;rintro e w' ⟨rfl,pos,rfl⟩;exact ⟨⟨_,rfl,Bt _ _⟩,(Below.refl _ _).alloc (aah _) _⟩
  .cases b
 .cases b
theorem BC {f:FuncId} (a: ∀args w,(callFunc f args).run P w= .ok (.enter f args) w)
  (h: ∀(s:ByteArray) (c:UInt8) (w:World),Calls P f #[.string s,.string ⟨#[c]⟩] w fun e w'=>e= .returned (.bool (decide (0<=Lib.indexByte s.data.toList c)))/\w'=w):dD P T G f (.lib fY):=by
 refine lg a fun args v b A g st w xs _ hx _=> ?_;unfold fY at b;split at b
 .rename_i s c;cases b;obtain ⟨x,y,rfl,h1,d⟩:=Xz hx;rw [mB h1,mB d];refine (h ⟨s.toArray⟩ c w).mono ?_;rintro e w' ⟨rfl,rfl⟩;exact ⟨⟨_,rfl,OB _⟩,Below.refl _ _⟩
 .cases b
end
end Go.VM
