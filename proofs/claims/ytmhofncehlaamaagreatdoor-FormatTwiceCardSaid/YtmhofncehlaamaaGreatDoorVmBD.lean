/-
  (A part of the proof: LibP.)
-/
import Derived.Test.YtmhofncehlaamaaGreatDoorVmAA
import Derived.Test.YtmhofncehlaamaaGreatDoorVmBA
import Derived.Below
import Derived.Lib.Repeat
import Derived.Lib.RuneCount
import Derived.Lib.ValidU
set_option linter.unusedSimpArgs false
namespace Go.VM
open Go.RowKit
section
variable {P:Program} {T:TT} {G:Nat→Option (List AV)} {A:Nat→Prop} {g:Gh} {st:St} {w:World}
theorem Inv.below {w':World} (h:Inv T A g st w) (hB:Below w.heap.size w w'):Inv T A g st w':=h.world hB.size fun b hb=>hB.block b hb
theorem Kp.below {w':World} (h:Inv T A g st w) (hB:Below w.heap.size w w'):Kp A g w g w':=
 ⟨hB.size,fun b hb=>hB.block b (Nat.lt_of_not_le fun k=>hb (h.up b k)),fun _ _ _=>rfl,fun _ _=>rfl,Le.refl g,hB.os,hB.tape,hB.output⟩
theorem km {f:FuncId} {F:List AV→cM AV} (hcall: ∀args w,(callFunc f args).run P w= .ok (.enter f args) w)
  (h: ∀args v,F args= .ok v→ ∀A g st w xs,GR g G→RL g args xs→Inv T A g st w→Calls P f xs.toArray w fun e w'=>(∃x,e= .returned x∧R g v x)∧Below w.heap.size w w'):cR P T G f (.lib F):=by
 intro C args p v fx st A g w xs hG hp hr hx hi;unfold dm at hp;split at hp
 all_goals first | (rename_i hq;cases hq;done) | skip
 all_goals simp only [Prim.lib.injEq,reduceCtorEq] at *
 all_goals first | contradiction | skip
 all_goals try subst_vars
 all_goals
  split at hp
  ·rename_i u hu;cases hp;obtain ⟨rfl,rfl⟩:=qA hr;refine .inr ⟨hcall _ _,(h _ _ hu A g st w xs hG hx hi).mono ?_⟩;rintro e w' ⟨⟨x,rfl,hR⟩,hB⟩;exact ⟨x,rfl,g,hR,hi.below hB,Kp.below hi hB⟩
  ·cases hp
def jR:List AV→cM AV
 | [.str s,.int .i64 n]=>match n with
  | .ofNat k=>match (s.length * k).ble 140737488355328&&k.ble 9223372036854775807 with
   | true=> .ok (.str (Lib.repeatL s k))
   | false=> .error "repeat: too long"
  | .negSucc _=> .error "repeat: below 0"
 | _=> .error "repeat"
def iT:List AV→cM AV
 | [.str s]=>match s.length.ble 9223372036854775807 with
  | true=> .ok (.bool (Lib.validD s))
  | false=> .error "valid: too long"
 | _=> .error "valid"
def ik:List AV→cM AV
 | [.str s]=>match s.length.blt 9223372036854775807 with
  | true=> .ok (.int .i64 (Lib.runeCountL s))
  | false=> .error "runes: too long"
 | _=> .error "runes"
def fE:List AV→cM AV
 | [.str s,.str [c]]=> .ok (.bool (decide (0≤Lib.indexByte s c)))
 | _=> .error "contains"
theorem lY {s:List UInt8} {x:Value} (h:R g (.str s) x):x= .string ⟨s.toArray⟩:=by simpa only [R] using h
theorem JZ {k:IntKind} {n:Int} {x:Value} (h:R g (.int k n) x):x= .int k n:=by simpa only [R] using h
theorem Pa (s:List UInt8):R g (.str s) (.string ⟨s.toArray⟩):=by simp only [R]
theorem yg (k:IntKind) (n:Int):R g (.int k n) (.int k n):=by simp only [R]
theorem Lr (b:Bool):R g (.bool b) (.bool b):=by simp only [R]
theorem El {f:FuncId} (hcall: ∀args w,(callFunc f args).run P w= .ok (.enter f args) w)
  (h: ∀(s:ByteArray) (c:Nat) (w:World),c≤9223372036854775807→s.size * c≤140737488355328→Calls P f #[.string s,.int .i64 c] w fun e w'=>e= .returned (.string ⟨(Lib.repeatL s.data.toList c).toArray⟩)∧Below w.heap.size w w'):cR P T G f (.lib jR):=by
 refine km hcall fun args v hF A g st w xs _ hx _=> ?_;unfold jR at hF;split at hF
 ·rename_i s n;cases n with
  | ofNat k=>
   dsimp only at hF;split at hF
   ·rename_i hk;cases hF;simp only [Vl] at hk;obtain ⟨x,y,rfl,h1,h2⟩:=Sa hx;rw [lY h1,JZ h2];refine (h ⟨s.toArray⟩ k w (VA hk.2) (by simpa [ByteArray.size] using VA hk.1)).mono ?_;rintro e w' ⟨rfl,hB⟩;exact ⟨⟨_,rfl,Pa _⟩,hB⟩
   ·cases hF
  | negSucc k=>cases hF
 ·cases hF
theorem EX {f:FuncId} (hcall: ∀args w,(callFunc f args).run P w= .ok (.enter f args) w)
  (h: ∀(s:ByteArray) (w:World),s.size < 9223372036854775807→Calls P f #[.string s] w fun e w'=>e= .returned (.int .i64 (Lib.runeCount s))∧ ∃pos,w'=w.iter s pos):cR P T G f (.lib ik):=by
 refine km hcall fun args v hF A g st w xs _ hx _=> ?_;unfold ik at hF;split at hF
 ·rename_i s;split at hF
  ·rename_i hk;cases hF;obtain ⟨x,rfl,h1⟩:=Rw hx;rw [lY h1];refine (h ⟨s.toArray⟩ w (by simpa [ByteArray.size] using cH.1 hk)).mono ?_;rintro e w' ⟨rfl,pos,rfl⟩;exact ⟨⟨_,rfl,yg _ _⟩,(Below.refl _ _).alloc (Vn _) _⟩
  ·cases hF
 ·cases hF
theorem zC {f:FuncId} (hcall: ∀args w,(callFunc f args).run P w= .ok (.enter f args) w)
  (h: ∀(s:ByteArray) (c:UInt8) (w:World),Calls P f #[.string s,.string ⟨#[c]⟩] w fun e w'=>e= .returned (.bool (decide (0≤Lib.indexByte s.data.toList c)))∧w'=w):cR P T G f (.lib fE):=by
 refine km hcall fun args v hF A g st w xs _ hx _=> ?_;unfold fE at hF;split at hF
 ·rename_i s c;cases hF;obtain ⟨x,y,rfl,h1,h2⟩:=Sa hx;rw [lY h1,lY h2];refine (h ⟨s.toArray⟩ c w).mono ?_;rintro e w' ⟨rfl,rfl⟩;exact ⟨⟨_,rfl,Lr _⟩,Below.refl _ _⟩
 ·cases hF
end
end Go.VM
