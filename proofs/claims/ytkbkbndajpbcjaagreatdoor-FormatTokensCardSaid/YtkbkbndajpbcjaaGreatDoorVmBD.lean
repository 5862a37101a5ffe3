/-
  A part of the proof.
-/
import Derived.Test.YtkbkbndajpbcjaaGreatDoorVmBA
import Derived.Below
import Derived.Lib.Repeat
import Derived.Lib.RuneCount
import Derived.Lib.ValidU
set_option linter.all false
namespace Go.VM
open Go.RowKit
section
variable {P:Program} {T:TT} {G:Nat->Oq LA} {A:Nat->Prop} {g:Gh} {st:St} {w:World}
theorem Inv.below {w':World} (h:Inv T A g st w) (a:Below w.heap.size w w'):Inv T A g st w':=h.world a.size fun b c=>a.block b c
theorem Kp.below {w':World} (h:Inv T A g st w) (a:Below w.heap.size w w'):Kp A g w g w':=
 ⟨a.size,fun b c=>a.block b (Nat.lt_of_not_le fun k=>c (h.up b k)),fun _ _ _=>rfl,fun _ _=>rfl,Le.refl g,a.os,a.tape,a.output⟩
theorem mw {f:FuncId} {F:LA->df AV} (a: ∀args w,(callFunc f args).run P w= .ok (.enter f args) w)
  (h: ∀args v,F args= .ok v-> ∀A g st w xs,GR g G->RL g args xs->Inv T A g st w->Calls P f xs.toArray w fun e w'=>(∃x,e= .returned x/\R g v x)/\Below w.heap.size w w'):dR P T G f (.lib F):=by
 intro C args p v k st A g w xs c hp d hx hi;unfold dK at hp;split at hp
 all_goals first | (rename_i i;cases i;done) | skip
 all_goals simp only [Prim.lib.injEq,reduceCtorEq] at *
 all_goals first | contradiction | skip
 all_goals try subst_vars
 all_goals
  split at hp
  .rename_i u j;cases hp;obtain ⟨rfl,rfl⟩:=tV d;refine .inr ⟨a _ _,(h _ _ j A g st w xs c hx hi).mono ?_⟩;rintro e w' ⟨⟨x,rfl,hR⟩,b⟩;exact ⟨x,rfl,g,hR,hi.below b,Kp.below hi b⟩
  .cases hp
def lS:LA->df AV
 | [.str s,.int .i64 n]=>match n with
  | .ofNat k=>match (s.length * k).ble 140737488355328&&k.ble 9223372036854775807 with
   | true=> .ok (.str (Lib.repeatL s k))
   | false=> .error "repeat: too long"
  | .negSucc _=> .error "repeat: below 0"
 | _=> .error "repeat"
def kK:LA->df AV
 | [.str s]=>match s.length.ble 9223372036854775807 with
  | true=> .ok (.bool (Lib.validD s))
  | false=> .error "valid: too long"
 | _=> .error "valid"
def jB:LA->df AV
 | [.str s]=>match s.length.blt 9223372036854775807 with
  | true=> .ok (.int .i64 (Lib.runeCountL s))
  | false=> .error "runes: too long"
 | _=> .error "runes"
def gE:LA->df AV
 | [.str s,.str [c]]=> .ok (.bool (decide (0<=Lib.indexByte s c)))
 | _=> .error "contains"
theorem nN {s:LB} {x:Value} (h:R g (.str s) x):x= .string ⟨s.toArray⟩:=by simpa only [R] using h
theorem OK {k:IntKind} {n:Int} {x:Value} (h:R g (.int k n) x):x= .int k n:=by simpa only [R] using h
theorem Ti (s:LB):R g (.str s) (.string ⟨s.toArray⟩):=by simp only [R]
theorem Ay (k:IntKind) (n:Int):R g (.int k n) (.int k n):=by simp only [R]
theorem OA (b:Bool):R g (.bool b) (.bool b):=by simp only [R]
theorem Gn {f:FuncId} (b: ∀args w,(callFunc f args).run P w= .ok (.enter f args) w)
  (h: ∀(s:ByteArray) (c:Nat) (w:World),c<=9223372036854775807->s.size * c<=140737488355328->Calls P f #[.string s,.int .i64 c] w fun e w'=>e= .returned (.string ⟨(Lib.repeatL s.data.toList c).toArray⟩)/\Below w.heap.size w w'):dR P T G f (.lib lS):=by
 refine mw b fun args v a A g st w xs _ hx _=> ?_;unfold lS at a;split at a
 .rename_i s n;cases n with
  | ofNat k=>
   dsimp only at a;split at a
   .rename_i d;cases a;simp only [aak] at d;obtain ⟨x,y,rfl,h1,i⟩:=Yv hx;rw [nN h1,OK i];refine (h ⟨s.toArray⟩ k w (aah d.2) (by simpa [ByteArray.size] using aah d.1)).mono ?_;rintro e w' ⟨rfl,j⟩;exact ⟨⟨_,rfl,Ti _⟩,j⟩
   .cases a
  | negSucc k=>cases a
 .cases a
theorem Ic {f:FuncId} (a: ∀args w,(callFunc f args).run P w= .ok (.enter f args) w)
  (h: ∀(s:ByteArray) (w:World),s.size < 9223372036854775807->Calls P f #[.string s] w fun e w'=>e= .returned (.int .i64 (Lib.runeCount s))/\ ∃pos,w'=w.iter s pos):dR P T G f (.lib jB):=by
 refine mw a fun args v b A g st w xs _ hx _=> ?_;unfold jB at b;split at b
 .rename_i s;split at b
  .rename_i c;cases b;obtain ⟨x,rfl,h1⟩:=WI hx;rw [nN h1];refine (h ⟨s.toArray⟩ w (by simpa [ByteArray.size] using cZ.1 c)).mono ?_;rintro e w' ⟨rfl,pos,rfl⟩;exact ⟨⟨_,rfl,Ay _ _⟩,(Below.refl _ _).alloc (aal _) _⟩
  .cases b
 .cases b
theorem Cs {f:FuncId} (a: ∀args w,(callFunc f args).run P w= .ok (.enter f args) w)
  (h: ∀(s:ByteArray) (c:UInt8) (w:World),Calls P f #[.string s,.string ⟨#[c]⟩] w fun e w'=>e= .returned (.bool (decide (0<=Lib.indexByte s.data.toList c)))/\w'=w):dR P T G f (.lib gE):=by
 refine mw a fun args v b A g st w xs _ hx _=> ?_;unfold gE at b;split at b
 .rename_i s c;cases b;obtain ⟨x,y,rfl,h1,d⟩:=Yv hx;rw [nN h1,nN d];refine (h ⟨s.toArray⟩ c w).mono ?_;rintro e w' ⟨rfl,rfl⟩;exact ⟨⟨_,rfl,OA _⟩,Below.refl _ _⟩
 .cases b
end
end Go.VM
